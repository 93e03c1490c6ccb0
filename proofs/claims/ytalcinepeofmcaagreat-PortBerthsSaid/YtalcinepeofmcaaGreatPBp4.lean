import Derived.Test.YtalcinepeofmcaaGreatPBp3
import Derived.Laws.EntriesVeiled
import Derived.Test.YtalcinepeofmcaaGreatPBp0
set_option linter.unusedVariables false
set_option linter.unusedSimpArgs false
set_option maxRecDepth 100000
set_option maxHeartbeats 40000000
namespace Go.Proofs.YtalcinepeofmcaaGreat
open Go Go.RowKit Sp Hu
theorem head_get : ∀ {l : List Pnt} (h : 0 < l.length) (d : Pnt), l.headD d = l[0]'h
  | [], h, _ => absurd h (by simp)
  | _ :: _, _, _ => rfl
theorem incB_adj : ∀ {l : List Pnt}, (∀ j (h : j + 1 < l.length), l[j].x < l[j + 1].x) → incB l = true
  | [], _ => rfl
  | [a], _ => rfl
  | a :: b :: l, h => by
    rw [incB, Bool.and_eq_true, decide_eq_true_eq];exact ⟨h 0 (by simp), incB_adj fun j hj => h (j + 1) (by simp at hj ⊢; omega)⟩
theorem incB_no {l : List Pnt} {j : Nat} (h : j + 1 < l.length) (hn : l[j + 1].x ≤ l[j].x) : incB l = false := by
  cases hb : incB l with
  | false => rfl
  | true =>
    have := List.pairwise_iff_getElem.1 (incB_iff.1 hb) j (j + 1) (by omega) h (by omega);omega
theorem wayB_adj {k : Int} : ∀ {l : List Pnt}, (∀ j (h : j + 1 < l.length), 0 ≤ (l[j + 1].y - l[j].y) * k) → wayB k l = true
  | [], _ => rfl
  | [a], _ => rfl
  | a :: b :: l, h => by
    rw [wayB, Bool.and_eq_true, decide_eq_true_eq];exact ⟨h 0 (by simp), wayB_adj fun j hj => h (j + 1) (by simp at hj ⊢; omega)⟩
theorem wayB_no {k : Int} {l : List Pnt} {j : Nat} (h : j + 1 < l.length) (hn : (l[j + 1].y - l[j].y) * k < 0) : wayB k l = false := by
  cases hb : wayB k l with
  | false => rfl
  | true =>
    have := List.pairwise_iff_getElem.1 (wayB_iff.1 hb) j (j + 1) (by omega) h (by omega);rw [Int.sub_mul] at hn;omega
theorem pnt_all {l : List Pnt} {k : Nat} (hk : k < l.length) (h : pntB l[k] = false) : l.all pntB = false := List.all_eq_false.2 ⟨l[k], List.getElem_mem hk, by simp [h]⟩
theorem curve_any (A : Option Addr) (c : Nat) (l : List Pnt) (w : World) (hr : Rd w 2 A l.length (pnts l)) (hm : l.length ≤ 1000) :
    Calls Tryz.prog 117 #[.slice A l.length c] w fun e w' => e = .returned (.bool (curveB l)) ∧ Below w.heap.size w w' := by
  have HR := Lib.hid hr;cases h1 : within l.length 2 8
  · have hc : curveB l = false := by unfold curveB; rw [h1]; rfl
    rw [hc];clear hr hc
    go_enter Tryz.func117, Tryz.ntmps117
    go_wp2_with (go_at_call 100; refine (huin_any _ _ _ _).mono ?_; rintro e w' ⟨rfl, rfl⟩)
    go_ret;exact ⟨rfl, Below.refl _ _⟩
  · have hl8 : 2 ≤ l.length ∧ l.length ≤ 8 := by have := Pt.within_iff.1 h1; omega
    obtain ⟨b, off, rfl, hb, hc⟩ := hr.2 (by omega);have g0 := (pnts_get (l := l) (k := 0) (by omega)).1;have c0 : w.cell? ⟨b, off, none⟩ = some (.int .i64 (l[0]'(by omega)).x) := hc _ _ g0;have hh : l.headD ⟨1, 0⟩ = l[0]'(by omega) := by cases l with
      | nil => simp at hl8
      | cons a l => rfl
    obtain ⟨x0, hx0⟩ : ∃ y, y = (l[0]'(by omega)).x := ⟨_, rfl⟩;rw [← hx0] at c0;have HC := Lib.hid (And.intro hc (And.intro hh hx0));clear hr hc hh hx0 g0;by_cases h0 : x0 = 0
    · subst h0
      go_enter Tryz.func117, Tryz.ntmps117
      go_wp2_with (go_at_call 100; refine (huin_any _ _ _ _).mono ?_; rintro e w' ⟨rfl, rfl⟩)
      clear c0
      go_loopg [2, 3, 4, 18] (l.length) (fun g r s p i wr => ∃ k : Nat, g + k = l.length ∧ i = .int .i64 k ∧ (∀ j (h : j < l.length), j < k → pntB l[j] = true) ∧ (∀ j (h : j + 1 < l.length), j + 1 < k → l[j].x < l[j + 1].x) ∧ Below w.heap.size w wr)
      case atStart => exact ⟨0, rfl, rfl, fun _ _ h => by omega, fun _ _ h => by omega, Below.refl _ _⟩
      case round =>
        obtain ⟨k, hk, rfl, hp, hi, bb⟩ := hrel;have HB := Lib.hid (And.intro hp (And.intro hi bb));clear hp hi bb;by_cases hlt : k < l.length
        · have gk' := pnts_get (l := l) (k := k) hlt;have hb' : b < wr.heap.size := Nat.lt_of_lt_of_le hb HB.out.2.2.size;have ck0 := (HB.out.2.2.cell (p := ⟨b, off + k * 2, none⟩) hb).trans (HC.out.1 _ _ gk'.1);have ck1 : wr.cell? ⟨b, off + k * 2 + 1, none⟩ = some (.int .i64 l[k].y) := (HB.out.2.2.cell (p := ⟨b, off + k * 2 + 1, none⟩) hb).trans (by rw [Nat.add_assoc]; exact HC.out.1 _ _ gk'.2);obtain ⟨x, hx⟩ : ∃ y, y = l[k].x := ⟨_, rfl⟩;obtain ⟨y, hy⟩ : ∃ y, y = l[k].y := ⟨_, rfl⟩;rw [← hx] at ck0;rw [← hy] at ck1;obtain ⟨qb, hqb⟩ : ∃ q, q = wr.heap.size := ⟨_, rfl⟩;obtain ⟨X, hX⟩ : ∃ X, X = wr.alloc (.cells #[.int .i64 x, .int .i64 y] 107) := ⟨_, rfl⟩;have bX : Below wr.heap.size wr X := by rw [hX]; exact (Below.refl _ _).alloc (Nat.le_refl _) _
          have gq : X.heap[qb]? = some (.cells #[.int .i64 x, .int .i64 y] 107 (0, 0)) := by rw [hX, hqb]; exact heap_alloc_new _ _
          have q0 := (cOH gq 0).trans rfl;have q1 := (cOH gq 1).trans rfl;have zq := hL_ gq;have HX := Lib.hid (And.intro hx (And.intro hy (HB.out.2.2.trans (bX.mono HB.out.2.2.size))));clear hx hy gq gk';go_upto_region 6 with fail
          rw [← hX, ← hqb];clear hX hqb;have KW := Lib.hid (fun a b d (m : Nat) => (huin_any a b d (X.drewN m)).mono (fun e W' (h : e = .returned (.bool (within a b d)) ∧ X.drewN m = W') => And.intro h.1 h.2.symm));cases e1 : within x 0 400
          · go_quiet ((go_at_call 100; exact Calls.quiet_of_same (KW.out _ _ _ _)));go_wp2_with fail
            go_ret;refine ⟨?_, below_drewN HX.out.2.2 _⟩;have : l.all pntB = false := pnt_all hlt (by unfold pntB; rw [← HX.out.1, e1]; rfl);unfold curveB; rw [this]; simp
          · cases e2 : within y 0 20000
            · go_quiet ((go_at_call 100; exact Calls.quiet_of_same (KW.out _ _ _ _)));go_wp2_with fail
              go_ret;refine ⟨?_, below_drewN HX.out.2.2 _⟩;have : l.all pntB = false := pnt_all hlt (by unfold pntB; rw [← HX.out.2.1, e2]; simp);unfold curveB; rw [this]; simp
            · by_cases hk0 : k = 0
              · subst hk0;have d0 : decide ((0 : Int) < 0) = false := by decide
                go_quiet ((go_at_call 100; exact Calls.quiet_of_same (KW.out _ _ _ _)));go_wp2_with fail
                go_roundg (gk - 1);case measure => omega
                case rel =>
                  refine ⟨1, by omega, by go_num, fun j h h2 => ?_, fun j h h2 => by omega, below_drewN HX.out.2.2 _⟩;obtain rfl : j = 0 := by omega
                  unfold pntB; rw [← HX.out.1, ← HX.out.2.1, e1, e2]; rfl
              · obtain ⟨j, rfl⟩ : ∃ j, k = j + 1 := ⟨k - 1, by omega⟩;have gj := (pnts_get (l := l) (k := j) (by omega)).1;have cj := (HX.out.2.2.cell (p := ⟨b, off + j * 2, none⟩) hb).trans (HC.out.1 _ _ gj);obtain ⟨xj, hxj⟩ : ∃ y, y = (l[j]'(by omega)).x := ⟨_, rfl⟩;rw [← hxj] at cj;have zb : b < X.heap.size := Nat.lt_of_lt_of_le hb HX.out.2.2.size;have hjj : ((j + 1 : Nat) : Int) - 1 = (j : Int) := by omega
                have HJ := Lib.hid hxj;clear hxj gj;by_cases hle : x ≤ xj
                · have d1 : decide (x ≤ xj) = true := decide_eq_true hle;go_quiet ((go_at_call 100; exact Calls.quiet_of_same (KW.out _ _ _ _)));go_wp2_with fail
                  go_ret;refine ⟨?_, below_drewN HX.out.2.2 _⟩;have : incB l = false := incB_no (j := j) hlt (by rw [← HX.out.1, ← HJ.out]; exact hle);unfold curveB; rw [this]; simp
                · have d1 : decide (x ≤ xj) = false := decide_eq_false hle;go_quiet ((go_at_call 100; exact Calls.quiet_of_same (KW.out _ _ _ _)));go_wp2_with fail
                  go_roundg (gk - 1);case measure => omega
                  case rel =>
                    refine ⟨j + 2, by omega, by go_num, fun i h h2 => ?_, fun i h h2 => ?_, below_drewN HX.out.2.2 _⟩
                    · by_cases hi : i = j + 1
                      · subst hi;unfold pntB; rw [← HX.out.1, ← HX.out.2.1, e1, e2]; rfl
                      · exact HB.out.1 i h (by omega)
                    · by_cases hi : i = j
                      · subst hi;rw [← HX.out.1, ← HJ.out]; omega
                      · exact HB.out.2.1 i h (by omega)
        · obtain rfl : l.length = k := by omega
          go_wp2_with fail
          go_ret;refine ⟨?_, HB.out.2.2⟩;have a1 : l.all pntB = true := List.all_eq_true.2 fun q hq => by
            obtain ⟨j, hj, rfl⟩ := List.mem_iff_getElem.1 hq;exact HB.out.1 j hj hj
          have a2 : incB l = true := incB_adj fun j hj => HB.out.2.1 j hj hj;unfold curveB;rw [h1, a1, a2, HC.out.2.1, ← HC.out.2.2]; rfl
    · have hc : curveB l = false := by unfold curveB; rw [HC.out.2.1, ← HC.out.2.2, decide_eq_false h0]; simp
      rw [hc];have hn : (x0 != 0) = true := by simpa using h0
      go_enter Tryz.func117, Tryz.ntmps117
      go_wp2_with (go_at_call 100; refine (huin_any _ _ _ _).mono ?_; rintro e w' ⟨rfl, rfl⟩)
      go_ret;exact ⟨rfl, Below.refl _ _⟩
theorem steady_any (A : Option Addr) (c : Nat) (l : List Pnt) (way : Int) (w : World) (hr : Rd w 2 A l.length (pnts l)) (hm : l.length ≤ 1000) (hw : way = 1 ∨ way = -1) :
    Calls Tryz.prog 109 #[.slice A l.length c, .int .i64 way] w fun e w' => e = .returned (.bool (steadyB l way)) ∧ Below w.heap.size w w' := by
  have kc := curve_any A c l w hr hm;obtain ⟨z, hz⟩ : ∃ z, z = curveB l := ⟨_, rfl⟩;rw [← hz] at kc;have KC := Lib.hid (And.intro kc hr);unfold steadyB;rw [← hz];clear kc hr;cases z
  · clear hz
    go_enter Tryz.func109, Tryz.ntmps109
    go_wp2_with (go_at_call 117; refine KC.out.1.mono ?_; rintro e w' ⟨rfl, b1⟩; have HB := Lib.hid b1; clear b1)
    go_ret;exact ⟨rfl, HB.out⟩
  · obtain ⟨hcv, hl8⟩ := curveB_crv hz.symm;have hl2 := hcv.two;obtain ⟨b, off, rfl, hb, hc⟩ := KC.out.2.2 (by omega);have HC := Lib.hid (And.intro hc hcv);clear hz hcv hc;rw [Bool.true_and]
    go_enter Tryz.func109, Tryz.ntmps109
    go_upto_block 0 with (go_at_call 117; refine KC.out.1.mono ?_; rintro e w' ⟨rfl, b1⟩; have HB := Lib.hid b1; clear b1)
    go_wp2_with fail
    go_loopg [4, 5] (l.length - 1) (fun g r i wr => ∃ k : Nat, g + k + 1 = l.length ∧ i = .int .i64 ((k + 1 : Nat) : Int) ∧ (∀ j (h : j + 1 < l.length), j < k → 0 ≤ (l[j + 1].y - l[j].y) * way) ∧ Below w.heap.size w wr)
    case atStart => exact ⟨0, by omega, rfl, fun _ _ h => by omega, HB.out⟩
    case round =>
      obtain ⟨k, hk, rfl, hp, bb⟩ := hrel;have HR := Lib.hid (And.intro hp bb);clear hp bb;by_cases hlt : k + 1 < l.length
      · have g0 := (pnts_get (l := l) (k := k) (by omega)).2;have g1 := (pnts_get (l := l) (k := k + 1) hlt).2;have zb : b < wr.heap.size := Nat.lt_of_lt_of_le hb HR.out.2.size;have c0 : wr.cell? ⟨b, off + k * 2 + 1, none⟩ = some (.int .i64 (l[k]'(by omega)).y) := (HR.out.2.cell (p := ⟨b, off + k * 2 + 1, none⟩) hb).trans (by rw [Nat.add_assoc]; exact HC.out.1 _ _ g0);have c1 : wr.cell? ⟨b, off + (k + 1) * 2 + 1, none⟩ = some (.int .i64 l[k + 1].y) := (HR.out.2.cell (p := ⟨b, off + (k + 1) * 2 + 1, none⟩) hb).trans (by rw [Nat.add_assoc]; exact HC.out.1 _ _ g1);have r0 := (HC.out.2.rng _ (List.getElem_mem (show k < l.length by omega))).2.2;have r1 := (HC.out.2.rng _ (List.getElem_mem hlt)).2.2;obtain ⟨y0, hy0⟩ : ∃ y, y = (l[k]'(by omega)).y := ⟨_, rfl⟩;obtain ⟨y1, hy1⟩ : ∃ y, y = l[k + 1].y := ⟨_, rfl⟩;rw [← hy0] at c0 r0;rw [← hy1] at c1 r1;have HY := Lib.hid (And.intro hy0 hy1);have hkk : ((k + 1 : Nat) : Int) - 1 = (k : Int) := by omega
        clear g0 g1 hy0 hy1;have hpr : -20000 ≤ (y1 - y0) * way ∧ (y1 - y0) * way ≤ 20000 := by rcases hw with rfl | rfl <;> omega
        by_cases hn : (y1 - y0) * way < 0
        · have d1 : decide ((y1 - y0) * way < 0) = true := decide_eq_true hn;go_wp2_with fail
          go_quiet (fail);go_wp2_with fail
          go_ret;refine ⟨?_, below_drewN HR.out.2 _⟩;rw [wayB_no (j := k) hlt (by rw [← HY.out.1, ← HY.out.2]; exact hn)]; rfl
        · have d1 : decide ((y1 - y0) * way < 0) = false := decide_eq_false hn;go_wp2_with fail
          go_quiet (fail);go_wp2_with fail
          go_roundg (gk - 1);case measure => omega
          case rel =>
            refine ⟨k + 1, by omega, by go_num, fun j h h2 => ?_, below_drewN HR.out.2 _⟩;by_cases hj : j = k
            · subst hj;rw [← HY.out.1, ← HY.out.2]; omega
            · exact HR.out.1 j h (by omega)
      · obtain hkl : l.length = k + 1 := by omega
        go_wp2_with fail
        go_ret;refine ⟨?_, HR.out.2⟩;rw [wayB_adj (fun j hj => HR.out.1 j hj (by omega))]; rfl
def ruleB (s : Shp) : Nat → Bool
  | 0 => within s.cls 1 6
  | 1 => within s.pow 100 100000 && within s.dra 10 2000 && within s.ton 10 500000
  | 2 => within s.slow 0 20 && within s.brash 0 100 && within s.ridge 0 500 && within s.press 0 5000
  | 3 => steadyB s.thr (-1) && within (endX s.thr) 10 250
  | 4 => steadyB s.wat 1 && decide (endX s.wat ≤ 250)
  | _ => steadyB s.ice 1 && decide ((s.ice.headD ⟨0, 1⟩).y = 0) && decide (endX s.ice = 400)
def ruleE (k : Nat) : Int := if k = 0 then 41 else 40
theorem shipE_rules (s : Shp) : shipE s = if ruleB s 0 = false then 41 else if ruleB s 1 = false then 40 else if ruleB s 2 = false then 40 else if ruleB s 3 = false then 40 else if ruleB s 4 = false then 40 else if ruleB s 5 = false then 40 else 0 := rfl
theorem ship_no {s : Shp} {k : Nat} (hk : k < 6) (hb : ∀ j, j < k → ruleB s j = true) (hn : ruleB s k = false) : shipE s = ruleE k := by
  rw [shipE_rules];rcases (by omega : k = 0 ∨ k = 1 ∨ k = 2 ∨ k = 3 ∨ k = 4 ∨ k = 5) with rfl | rfl | rfl | rfl | rfl | rfl
  · rw [hn]; rfl
  · rw [hb 0 (by decide), hn]; rfl
  · rw [hb 0 (by decide), hb 1 (by decide), hn]; rfl
  · rw [hb 0 (by decide), hb 1 (by decide), hb 2 (by decide), hn]; rfl
  · rw [hb 0 (by decide), hb 1 (by decide), hb 2 (by decide), hb 3 (by decide), hn]; rfl
  · rw [hb 0 (by decide), hb 1 (by decide), hb 2 (by decide), hb 3 (by decide), hb 4 (by decide), hn]; rfl
theorem ship_yes {s : Shp} (hb : ∀ j, j < 6 → ruleB s j = true) : shipE s = 0 := by
  rw [shipE_rules, hb 0 (by decide), hb 1 (by decide), hb 2 (by decide), hb 3 (by decide), hb 4 (by decide), hb 5 (by decide)]; rfl
structure ShR (At Aw Ai : Option Addr) (s : Shp) (w : World) : Prop where
  rt : Rd w 2 At s.thr.length (pnts s.thr)
  rw_ : Rd w 2 Aw s.wat.length (pnts s.wat)
  ri : Rd w 2 Ai s.ice.length (pnts s.ice)
  l1 : s.thr.length ≤ 1000
  l2 : s.wat.length ≤ 1000
  l3 : s.ice.length ≤ 1000
theorem ShR.below {At Aw Ai : Option Addr} {s : Shp} {w w' : World} (h : ShR At Aw Ai s w) (hb : Below w.heap.size w w') : ShR At Aw Ai s w' := ⟨h.rt.below hb, h.rw_.below hb, h.ri.below hb, h.l1, h.l2, h.l3⟩
theorem rule0_any (At : Option Addr) (ct : Nat) (Aw : Option Addr) (cw : Nat) (Ai : Option Addr) (ci : Nat) (s : Shp) (w : World) (R : ShR At Aw Ai s w) :
    Calls Tryz.prog 105 #[.agg (shpV At ct Aw cw Ai ci s)] w fun e w' => e = .returned (.bool (ruleB s 0)) ∧ Below w.heap.size w w' := by
  have bX : Below w.heap.size w (w.alloc (.cells (shpV At ct Aw cw Ai ci s) 30)) := (Below.refl _ _).alloc (Nat.le_refl _) _;unfold ruleB;have HX := Lib.hid (And.intro R bX);clear R bX;cases h0 : within s.cls 1 6 <;> (go_enter Tryz.func105, Tryz.ntmps105; go_wp2_with (go_at_call 100; refine (huin_any _ _ _ _).mono ?_; rintro e w' ⟨rfl, rfl⟩); go_ret; exact ⟨rfl, HX.out.2⟩)
theorem rule1_any (At : Option Addr) (ct : Nat) (Aw : Option Addr) (cw : Nat) (Ai : Option Addr) (ci : Nat) (s : Shp) (w : World) (R : ShR At Aw Ai s w) :
    Calls Tryz.prog 106 #[.agg (shpV At ct Aw cw Ai ci s)] w fun e w' => e = .returned (.bool (ruleB s 1)) ∧ Below w.heap.size w w' := by
  have bX : Below w.heap.size w (w.alloc (.cells (shpV At ct Aw cw Ai ci s) 30)) := (Below.refl _ _).alloc (Nat.le_refl _) _;unfold ruleB;have HX := Lib.hid (And.intro R bX);clear R bX;cases h0 : within s.pow 100 100000 <;> cases h1 : within s.dra 10 2000 <;> cases h2 : within s.ton 10 500000 <;> (go_enter Tryz.func106, Tryz.ntmps106; go_wp2_with (go_at_call 100; refine (huin_any _ _ _ _).mono ?_; rintro e w' ⟨rfl, rfl⟩); go_ret; exact ⟨rfl, HX.out.2⟩)
theorem rule2_any (At : Option Addr) (ct : Nat) (Aw : Option Addr) (cw : Nat) (Ai : Option Addr) (ci : Nat) (s : Shp) (w : World) (R : ShR At Aw Ai s w) :
    Calls Tryz.prog 107 #[.agg (shpV At ct Aw cw Ai ci s)] w fun e w' => e = .returned (.bool (ruleB s 2)) ∧ Below w.heap.size w w' := by
  have bX : Below w.heap.size w (w.alloc (.cells (shpV At ct Aw cw Ai ci s) 30)) := (Below.refl _ _).alloc (Nat.le_refl _) _;unfold ruleB;have HX := Lib.hid (And.intro R bX);clear R bX;cases h0 : within s.slow 0 20 <;> cases h1 : within s.brash 0 100 <;> cases h2 : within s.ridge 0 500 <;> cases h3 : within s.press 0 5000 <;> (go_enter Tryz.func107, Tryz.ntmps107; go_wp2_with (go_at_call 100; refine (huin_any _ _ _ _).mono ?_; rintro e w' ⟨rfl, rfl⟩); go_ret; exact ⟨rfl, HX.out.2⟩)
theorem rule3_any (At : Option Addr) (ct : Nat) (Aw : Option Addr) (cw : Nat) (Ai : Option Addr) (ci : Nat) (s : Shp) (w : World) (R : ShR At Aw Ai s w) :
    Calls Tryz.prog 108 #[.agg (shpV At ct Aw cw Ai ci s)] w fun e w' => e = .returned (.bool (ruleB s 3)) ∧ Below w.heap.size w w' := by
  obtain ⟨X, hX⟩ : ∃ X, X = w.alloc (.cells (shpV At ct Aw cw Ai ci s) 30) := ⟨_, rfl⟩;obtain ⟨sb, hsb⟩ : ∃ b, b = w.heap.size := ⟨_, rfl⟩;have bX : Below w.heap.size w X := by rw [hX]; exact (Below.refl _ _).alloc (Nat.le_refl _) _
  have gx : X.heap[sb]? = some (.cells (shpV At ct Aw cw Ai ci s) 30 (0, 0)) := by rw [hX, hsb]; exact heap_alloc_new _ _
  have hl := R.l1;obtain ⟨z, hz⟩ : ∃ z, z = steadyB s.thr (-1) := ⟨_, rfl⟩;have ks : Calls Tryz.prog 109 #[.slice At s.thr.length ct, .int .i64 (-1)] X fun e w' => e = .returned (.bool z) ∧ Below X.heap.size X w' := by rw [hz]; exact steady_any At ct s.thr (-1) X (R.below bX).rt hl (by decide)
  have cF := (cOH gx 4).trans rfl;have zx := hL_ gx;unfold ruleB;rw [← hz];cases z
  · have HX := Lib.hid (And.intro ks bX);clear ks bX gx hz R
    go_enter Tryz.func108, Tryz.ntmps108
    go_upto_region 1 with fail
    rw [← hX, ← hsb];clear hX hsb;go_wp2_with (go_at_call 109; refine HX.out.1.mono ?_; rintro e w' ⟨rfl, b1⟩; have HB := Lib.hid b1; clear b1)
    go_ret;exact ⟨rfl, HX.out.2.trans (HB.out.mono HX.out.2.size)⟩
  · have hcv : Crv s.thr ∧ s.thr.length ≤ 8 := by unfold steadyB at hz; exact curveB_crv (Bool.and_eq_true_iff.1 hz.symm).1
    have hl2 := hcv.1.two;have ke : ∀ wx, Below w.heap.size w wx → Calls Tryz.prog 85 #[.slice At s.thr.length ct] wx fun e w' => e = .returned (.int .i64 (endX s.thr)) ∧ wx = w' := fun wx hb => huend_any At ct s.thr wx (R.below hb).rt (by omega) hl;have HX := Lib.hid (And.intro ks (And.intro bX (And.intro gx ke)));clear ks bX gx ke hz R hcv;cases h1 : within (endX s.thr) 10 250;all_goals
      go_enter Tryz.func108, Tryz.ntmps108
      go_upto_region 1 with fail
      rw [← hX, ← hsb];clear hX hsb;go_wp2_with (first | (go_at_call 109; refine HX.out.1.mono ?_; rintro e w' ⟨rfl, b1⟩; have gx := (b1.block _ (hL_ HX.out.2.2.1)).trans HX.out.2.2.1; have cF := (cOH gx 4).trans rfl; have zx := hL_ gx; have HB := Lib.hid (HX.out.2.1.trans (b1.mono HX.out.2.1.size)); clear b1 gx) | (go_at_call 85; refine (HX.out.2.2.2 _ HB.out).mono ?_; rintro e w' ⟨rfl, rfl⟩) | (go_at_call 100; refine (huin_any _ _ _ _).mono ?_; rintro e w' ⟨rfl, rfl⟩))
      go_ret;exact ⟨by first | rfl | simp, HB.out⟩
theorem rule4_any (At : Option Addr) (ct : Nat) (Aw : Option Addr) (cw : Nat) (Ai : Option Addr) (ci : Nat) (s : Shp) (w : World) (R : ShR At Aw Ai s w) :
    Calls Tryz.prog 110 #[.agg (shpV At ct Aw cw Ai ci s)] w fun e w' => e = .returned (.bool (ruleB s 4)) ∧ Below w.heap.size w w' := by
  obtain ⟨X, hX⟩ : ∃ X, X = w.alloc (.cells (shpV At ct Aw cw Ai ci s) 30) := ⟨_, rfl⟩;obtain ⟨sb, hsb⟩ : ∃ b, b = w.heap.size := ⟨_, rfl⟩;have bX : Below w.heap.size w X := by rw [hX]; exact (Below.refl _ _).alloc (Nat.le_refl _) _
  have gx : X.heap[sb]? = some (.cells (shpV At ct Aw cw Ai ci s) 30 (0, 0)) := by rw [hX, hsb]; exact heap_alloc_new _ _
  have hl := R.l2;obtain ⟨z, hz⟩ : ∃ z, z = steadyB s.wat (1) := ⟨_, rfl⟩;have ks : Calls Tryz.prog 109 #[.slice Aw s.wat.length cw, .int .i64 (1)] X fun e w' => e = .returned (.bool z) ∧ Below X.heap.size X w' := by rw [hz]; exact steady_any Aw cw s.wat (1) X (R.below bX).rw_ hl (by decide)
  have cF := (cOH gx 5).trans rfl;have zx := hL_ gx;unfold ruleB;rw [← hz];cases z
  · have HX := Lib.hid (And.intro ks bX);clear ks bX gx hz R
    go_enter Tryz.func110, Tryz.ntmps110
    go_upto_region 1 with fail
    rw [← hX, ← hsb];clear hX hsb;go_wp2_with (go_at_call 109; refine HX.out.1.mono ?_; rintro e w' ⟨rfl, b1⟩; have HB := Lib.hid b1; clear b1)
    go_ret;exact ⟨rfl, HX.out.2.trans (HB.out.mono HX.out.2.size)⟩
  · have hcv : Crv s.wat ∧ s.wat.length ≤ 8 := by unfold steadyB at hz; exact curveB_crv (Bool.and_eq_true_iff.1 hz.symm).1
    have hl2 := hcv.1.two;have ke : ∀ wx, Below w.heap.size w wx → Calls Tryz.prog 85 #[.slice Aw s.wat.length cw] wx fun e w' => e = .returned (.int .i64 (endX s.wat)) ∧ wx = w' := fun wx hb => huend_any Aw cw s.wat wx (R.below hb).rw_ (by omega) hl;have HX := Lib.hid (And.intro ks (And.intro bX (And.intro gx ke)));clear ks bX gx ke hz R hcv;cases h1 : decide (endX s.wat ≤ 250);all_goals
      go_enter Tryz.func110, Tryz.ntmps110
      go_upto_region 1 with fail
      rw [← hX, ← hsb];clear hX hsb;go_wp2_with (first | (go_at_call 109; refine HX.out.1.mono ?_; rintro e w' ⟨rfl, b1⟩; have gx := (b1.block _ (hL_ HX.out.2.2.1)).trans HX.out.2.2.1; have cF := (cOH gx 5).trans rfl; have zx := hL_ gx; have HB := Lib.hid (HX.out.2.1.trans (b1.mono HX.out.2.1.size)); clear b1 gx) | (go_at_call 85; refine (HX.out.2.2.2 _ HB.out).mono ?_; rintro e w' ⟨rfl, rfl⟩) | (go_at_call 100; refine (huin_any _ _ _ _).mono ?_; rintro e w' ⟨rfl, rfl⟩))
      go_ret;exact ⟨by first | rfl | simp, HB.out⟩
theorem rule5_any (At : Option Addr) (ct : Nat) (Aw : Option Addr) (cw : Nat) (Ai : Option Addr) (ci : Nat) (s : Shp) (w : World) (R : ShR At Aw Ai s w) :
    Calls Tryz.prog 111 #[.agg (shpV At ct Aw cw Ai ci s)] w fun e w' => e = .returned (.bool (ruleB s 5)) ∧ Below w.heap.size w w' := by
  obtain ⟨X, hX⟩ : ∃ X, X = w.alloc (.cells (shpV At ct Aw cw Ai ci s) 30) := ⟨_, rfl⟩;obtain ⟨sb, hsb⟩ : ∃ b, b = w.heap.size := ⟨_, rfl⟩;have bX : Below w.heap.size w X := by rw [hX]; exact (Below.refl _ _).alloc (Nat.le_refl _) _
  have gx : X.heap[sb]? = some (.cells (shpV At ct Aw cw Ai ci s) 30 (0, 0)) := by rw [hX, hsb]; exact heap_alloc_new _ _
  have hl := R.l3;obtain ⟨z, hz⟩ : ∃ z, z = steadyB s.ice (1) := ⟨_, rfl⟩;have ks : Calls Tryz.prog 109 #[.slice Ai s.ice.length ci, .int .i64 (1)] X fun e w' => e = .returned (.bool z) ∧ Below X.heap.size X w' := by rw [hz]; exact steady_any Ai ci s.ice (1) X (R.below bX).ri hl (by decide)
  have cF := (cOH gx 6).trans rfl;have zx := hL_ gx;unfold ruleB;rw [← hz];cases z
  · have HX := Lib.hid (And.intro ks bX);clear ks bX gx hz R
    go_enter Tryz.func111, Tryz.ntmps111
    go_upto_region 1 with fail
    rw [← hX, ← hsb];clear hX hsb;go_wp2_with (go_at_call 109; refine HX.out.1.mono ?_; rintro e w' ⟨rfl, b1⟩; have HB := Lib.hid b1; clear b1)
    go_ret;exact ⟨rfl, HX.out.2.trans (HB.out.mono HX.out.2.size)⟩
  · have hcv : Crv s.ice ∧ s.ice.length ≤ 8 := by unfold steadyB at hz; exact curveB_crv (Bool.and_eq_true_iff.1 hz.symm).1
    have hl2 := hcv.1.two;have ke : ∀ wx, Below w.heap.size w wx → Calls Tryz.prog 85 #[.slice Ai s.ice.length ci] wx fun e w' => e = .returned (.int .i64 (endX s.ice)) ∧ wx = w' := fun wx hb => huend_any Ai ci s.ice wx (R.below hb).ri (by omega) hl;obtain ⟨b, off, rfl, hb, hc⟩ := R.ri.2 (by omega);have hh : (s.ice.headD ⟨0, 1⟩).y = (s.ice[0]'(by omega)).y := congrArg Pnt.y (head_get (by omega) _);have g0 := hc _ _ (pnts_get (l := s.ice) (k := 0) (by omega)).2;obtain ⟨y0, hy0⟩ : ∃ y, y = (s.ice[0]'(by omega)).y := ⟨_, rfl⟩;obtain ⟨en, hen⟩ : ∃ y, y = endX s.ice := ⟨_, rfl⟩;rw [← hy0] at hh g0;rw [← hen] at ke;have HH := Lib.hid (And.intro hh (And.intro hen.symm (And.intro g0 hb)));clear hh hc hy0 hen g0;have HX := Lib.hid (And.intro ks (And.intro bX (And.intro gx ke)));clear ks bX gx ke hz R hcv;cases h1 : (y0 == 0) <;> cases h2 : (en == 400)
    all_goals
      go_enter Tryz.func111, Tryz.ntmps111
      go_upto_region 1 with fail
      rw [← hX, ← hsb];clear hX hsb;go_wp2_with (first | (go_at_call 109; refine HX.out.1.mono ?_; rintro e w' ⟨rfl, b1⟩; have gx := (b1.block _ (hL_ HX.out.2.2.1)).trans HX.out.2.2.1; have cF := (cOH gx 6).trans rfl; have zx := hL_ gx; have HB := Lib.hid (HX.out.2.1.trans (b1.mono HX.out.2.1.size)); have gy : w'.cell? ⟨b, off + 1, none⟩ = some (.int .i64 y0) := (HB.out.cell (p := ⟨b, off + 1, none⟩) HH.out.2.2.2).trans HH.out.2.2.1; have zb : b < w'.heap.size := Nat.lt_of_lt_of_le HH.out.2.2.2 HB.out.size; clear b1 gx) | (go_at_call 85; refine (HX.out.2.2.2 _ HB.out).mono ?_; rintro e w' ⟨rfl, rfl⟩) | (go_at_call 100; refine (huin_any _ _ _ _).mono ?_; rintro e w' ⟨rfl, rfl⟩))
      go_ret;exact ⟨by rw [HH.out.1, HH.out.2.1, show decide (y0 = 0) = _ from h1, show decide (en = 400) = _ from h2]; first | rfl | simp, HB.out⟩
def ruleVs : Array Value := #[.func (.func 105) #[] #[], .int .i64 41, .func (.func 106) #[] #[], .int .i64 40, .func (.func 107) #[] #[], .int .i64 40, .func (.func 108) #[] #[], .int .i64 40, .func (.func 110) #[] #[], .int .i64 40, .func (.func 111) #[] #[], .int .i64 40]
theorem rules_any (w : World) : Calls Tryz.prog 98 #[] w fun e w' => e = .returned (.slice (some ⟨w.heap.size, 0, none⟩) 6 6) ∧ w' = w.alloc (.cells ruleVs 186) := by
  go_enter Tryz.func98, Tryz.ntmps98
  go_wp2_with fail
  go_ret;exact ⟨rfl, rfl⟩
theorem hucheck_any (At : Option Addr) (ct : Nat) (Aw : Option Addr) (cw : Nat) (Ai : Option Addr) (ci : Nat) (s : Shp) (w : World) (R : ShR At Aw Ai s w) :
    Calls Tryz.prog 83 #[.agg (shpV At ct Aw cw Ai ci s)] w fun e w' => e = .returned (.int .i64 (shipE s)) ∧ Below w.heap.size w w' := by
  obtain ⟨X, hX⟩ : ∃ X, X = (w.alloc (.cells (shpV At ct Aw cw Ai ci s) 30)).alloc (.cells ruleVs 186) := ⟨_, rfl⟩;obtain ⟨sb, hsb⟩ : ∃ b, b = w.heap.size := ⟨_, rfl⟩;obtain ⟨rb, hrb⟩ : ∃ b, b = w.heap.size + 1 := ⟨_, rfl⟩;have O : Own w.heap.size w [.blk sb (.cells (shpV At ct Aw cw Ai ci s) 30), .blk rb (.cells ruleVs 186)] X := by
    have h := ((Own.start w).alloc (.cells (shpV At ct Aw cw Ai ci s) 30)).alloc (.cells ruleVs 186);rw [hX, hsb, hrb]; simpa using h
  have HX := Lib.hid (And.intro O R);have kr := rules_any (w.alloc (.cells (shpV At ct Aw cw Ai ci s) 30));rw [World.size_alloc, ← hX, ← hrb] at kr;have KR := Lib.hid kr;clear O R kr hX
  go_enter Tryz.func83, Tryz.ntmps83
  go_upto_block 0 with (go_at_call 98; refine KR.out.mono ?_; rintro e w1 ⟨rfl, rfl⟩)
  rw [← hrb, ← hsb];clear hrb hsb;go_wp2_with fail
  go_loopg [2, 4, 7] 6 (fun g r q i wr => ∃ k : Nat, g + k = 6 ∧ i = .int .i64 k ∧ (∀ j, j < k → ruleB s j = true) ∧ Below w1.heap.size w1 wr)
  case atStart => exact ⟨0, rfl, rfl, fun _ h => by omega, Below.refl _ _⟩
  case round =>
    obtain ⟨k, hk, rfl, hall, bb⟩ := hrel;have HB := Lib.hid (And.intro hall bb);clear hall bb;by_cases hlt : k < 6
    · have OR := HX.out.1.below HB.out.2;have hrx := OR.heap 1 rfl;have zr := hL_ hrx;rcases (by omega : k = 0 ∨ k = 1 ∨ k = 2 ∨ k = 3 ∨ k = 4 ∨ k = 5) with rfl | rfl | rfl | rfl | rfl | rfl
      · have c0 : wr.cell? ⟨rb, 0, none⟩ = some (.func (.func 105) #[] #[]) := (cOH hrx 0).trans rfl;have c1 : wr.cell? ⟨rb, 1, none⟩ = some (.int .i64 41) := (cOH hrx 1).trans rfl;clear hrx OR;obtain ⟨z, hz⟩ : ∃ z, z = ruleB s 0 := ⟨_, rfl⟩;have kc := rule0_any At ct Aw cw Ai ci s;rw [← hz] at kc;have KC := Lib.hid (And.intro kc hz);clear kc hz;obtain ⟨qb, hqb⟩ : ∃ b, b = wr.heap.size := ⟨_, rfl⟩;obtain ⟨X, hX⟩ : ∃ X, X = wr.alloc (.cells #[.func (.func 105) #[] #[], .int .i64 41] 186) := ⟨_, rfl⟩;go_upto_region 4 with fail
        rw [← hX, ← hqb];have bX : Below wr.heap.size wr X := by rw [hX]; exact (Below.refl _ _).alloc (Nat.le_refl _) _
        have gq : X.heap[qb]? = some (.cells #[.func (.func 105) #[] #[], .int .i64 41] 186 (0, 0)) := by rw [hX, hqb]; exact heap_alloc_new _ _
        have bX1 := HB.out.2.trans (bX.mono HB.out.2.size);have OX := HX.out.1.below bX1;have hsx := OX.heap 0 rfl;have s0 := (cOH hsx 0).trans rfl;have s1 := (cOH hsx 1).trans rfl;have s2 := (cOH hsx 2).trans rfl;have s3 := (cOH hsx 3).trans rfl;have s4 := (cOH hsx 4).trans rfl;have s5 := (cOH hsx 5).trans rfl;have s6 := (cOH hsx 6).trans rfl;have s7 := (cOH hsx 7).trans rfl;have s8 := (cOH hsx 8).trans rfl;have s9 := (cOH hsx 9).trans rfl;have s10 := (cOH hsx 10).trans rfl;have q0 : X.cell? ⟨qb, 0, none⟩ = some (.func (.func 105) #[] #[]) := (cOH gq 0).trans rfl;have zs := hL_ hsx;have zq := hL_ gq;have HG := Lib.hid (And.intro gq (And.intro OX.bel bX1));clear hX hqb bX gq bX1 OX hsx c0 c1 zr;cases z
        · go_wp2_with (go_at_call 105; refine (KC.out.1 _ (HX.out.2.below HG.out.2.1)).mono ?_; rintro e w' ⟨rfl, b1⟩; have HB1 := Lib.hid (HG.out.2.1.trans (b1.mono HG.out.2.1.size)); have gq := (b1.block _ (hL_ HG.out.1)).trans HG.out.1; have q1 : w'.cell? ⟨qb, 1, none⟩ = some (.int .i64 41) := (cOH gq 1).trans rfl; have zq := hL_ gq; clear b1 gq)
          go_ret;exact ⟨by rw [ship_no (k := 0) (by decide) HB.out.1 KC.out.2.symm]; rfl, HB1.out⟩
        · go_wp2_with (go_at_call 105; refine (KC.out.1 _ (HX.out.2.below HG.out.2.1)).mono ?_; rintro e w' ⟨rfl, b1⟩; have HB1 := Lib.hid (HG.out.2.2.trans (b1.mono HG.out.2.2.size)); clear b1)
          go_roundg (gk - 1);case measure => omega
          case rel => exact ⟨1, by omega, by go_num, fun j hj => by
            by_cases e : j = 0
            · subst e; exact KC.out.2.symm
            · exact HB.out.1 j (by omega), HB1.out⟩
      · have c0 : wr.cell? ⟨rb, 2, none⟩ = some (.func (.func 106) #[] #[]) := (cOH hrx 2).trans rfl;have c1 : wr.cell? ⟨rb, 3, none⟩ = some (.int .i64 40) := (cOH hrx 3).trans rfl;clear hrx OR;obtain ⟨z, hz⟩ : ∃ z, z = ruleB s 1 := ⟨_, rfl⟩;have kc := rule1_any At ct Aw cw Ai ci s;rw [← hz] at kc;have KC := Lib.hid (And.intro kc hz);clear kc hz;obtain ⟨qb, hqb⟩ : ∃ b, b = wr.heap.size := ⟨_, rfl⟩;obtain ⟨X, hX⟩ : ∃ X, X = wr.alloc (.cells #[.func (.func 106) #[] #[], .int .i64 40] 186) := ⟨_, rfl⟩;go_upto_region 4 with fail
        rw [← hX, ← hqb];have bX : Below wr.heap.size wr X := by rw [hX]; exact (Below.refl _ _).alloc (Nat.le_refl _) _
        have gq : X.heap[qb]? = some (.cells #[.func (.func 106) #[] #[], .int .i64 40] 186 (0, 0)) := by rw [hX, hqb]; exact heap_alloc_new _ _
        have bX1 := HB.out.2.trans (bX.mono HB.out.2.size);have OX := HX.out.1.below bX1;have hsx := OX.heap 0 rfl;have s0 := (cOH hsx 0).trans rfl;have s1 := (cOH hsx 1).trans rfl;have s2 := (cOH hsx 2).trans rfl;have s3 := (cOH hsx 3).trans rfl;have s4 := (cOH hsx 4).trans rfl;have s5 := (cOH hsx 5).trans rfl;have s6 := (cOH hsx 6).trans rfl;have s7 := (cOH hsx 7).trans rfl;have s8 := (cOH hsx 8).trans rfl;have s9 := (cOH hsx 9).trans rfl;have s10 := (cOH hsx 10).trans rfl;have q0 : X.cell? ⟨qb, 0, none⟩ = some (.func (.func 106) #[] #[]) := (cOH gq 0).trans rfl;have zs := hL_ hsx;have zq := hL_ gq;have HG := Lib.hid (And.intro gq (And.intro OX.bel bX1));clear hX hqb bX gq bX1 OX hsx c0 c1 zr;cases z
        · go_wp2_with (go_at_call 106; refine (KC.out.1 _ (HX.out.2.below HG.out.2.1)).mono ?_; rintro e w' ⟨rfl, b1⟩; have HB1 := Lib.hid (HG.out.2.1.trans (b1.mono HG.out.2.1.size)); have gq := (b1.block _ (hL_ HG.out.1)).trans HG.out.1; have q1 : w'.cell? ⟨qb, 1, none⟩ = some (.int .i64 40) := (cOH gq 1).trans rfl; have zq := hL_ gq; clear b1 gq)
          go_ret;exact ⟨by rw [ship_no (k := 1) (by decide) HB.out.1 KC.out.2.symm]; rfl, HB1.out⟩
        · go_wp2_with (go_at_call 106; refine (KC.out.1 _ (HX.out.2.below HG.out.2.1)).mono ?_; rintro e w' ⟨rfl, b1⟩; have HB1 := Lib.hid (HG.out.2.2.trans (b1.mono HG.out.2.2.size)); clear b1)
          go_roundg (gk - 1);case measure => omega
          case rel => exact ⟨2, by omega, by go_num, fun j hj => by
            by_cases e : j = 1
            · subst e; exact KC.out.2.symm
            · exact HB.out.1 j (by omega), HB1.out⟩
      · have c0 : wr.cell? ⟨rb, 4, none⟩ = some (.func (.func 107) #[] #[]) := (cOH hrx 4).trans rfl;have c1 : wr.cell? ⟨rb, 5, none⟩ = some (.int .i64 40) := (cOH hrx 5).trans rfl;clear hrx OR;obtain ⟨z, hz⟩ : ∃ z, z = ruleB s 2 := ⟨_, rfl⟩;have kc := rule2_any At ct Aw cw Ai ci s;rw [← hz] at kc;have KC := Lib.hid (And.intro kc hz);clear kc hz;obtain ⟨qb, hqb⟩ : ∃ b, b = wr.heap.size := ⟨_, rfl⟩;obtain ⟨X, hX⟩ : ∃ X, X = wr.alloc (.cells #[.func (.func 107) #[] #[], .int .i64 40] 186) := ⟨_, rfl⟩;go_upto_region 4 with fail
        rw [← hX, ← hqb];have bX : Below wr.heap.size wr X := by rw [hX]; exact (Below.refl _ _).alloc (Nat.le_refl _) _
        have gq : X.heap[qb]? = some (.cells #[.func (.func 107) #[] #[], .int .i64 40] 186 (0, 0)) := by rw [hX, hqb]; exact heap_alloc_new _ _
        have bX1 := HB.out.2.trans (bX.mono HB.out.2.size);have OX := HX.out.1.below bX1;have hsx := OX.heap 0 rfl;have s0 := (cOH hsx 0).trans rfl;have s1 := (cOH hsx 1).trans rfl;have s2 := (cOH hsx 2).trans rfl;have s3 := (cOH hsx 3).trans rfl;have s4 := (cOH hsx 4).trans rfl;have s5 := (cOH hsx 5).trans rfl;have s6 := (cOH hsx 6).trans rfl;have s7 := (cOH hsx 7).trans rfl;have s8 := (cOH hsx 8).trans rfl;have s9 := (cOH hsx 9).trans rfl;have s10 := (cOH hsx 10).trans rfl;have q0 : X.cell? ⟨qb, 0, none⟩ = some (.func (.func 107) #[] #[]) := (cOH gq 0).trans rfl;have zs := hL_ hsx;have zq := hL_ gq;have HG := Lib.hid (And.intro gq (And.intro OX.bel bX1));clear hX hqb bX gq bX1 OX hsx c0 c1 zr;cases z
        · go_wp2_with (go_at_call 107; refine (KC.out.1 _ (HX.out.2.below HG.out.2.1)).mono ?_; rintro e w' ⟨rfl, b1⟩; have HB1 := Lib.hid (HG.out.2.1.trans (b1.mono HG.out.2.1.size)); have gq := (b1.block _ (hL_ HG.out.1)).trans HG.out.1; have q1 : w'.cell? ⟨qb, 1, none⟩ = some (.int .i64 40) := (cOH gq 1).trans rfl; have zq := hL_ gq; clear b1 gq)
          go_ret;exact ⟨by rw [ship_no (k := 2) (by decide) HB.out.1 KC.out.2.symm]; rfl, HB1.out⟩
        · go_wp2_with (go_at_call 107; refine (KC.out.1 _ (HX.out.2.below HG.out.2.1)).mono ?_; rintro e w' ⟨rfl, b1⟩; have HB1 := Lib.hid (HG.out.2.2.trans (b1.mono HG.out.2.2.size)); clear b1)
          go_roundg (gk - 1);case measure => omega
          case rel => exact ⟨3, by omega, by go_num, fun j hj => by
            by_cases e : j = 2
            · subst e; exact KC.out.2.symm
            · exact HB.out.1 j (by omega), HB1.out⟩
      · have c0 : wr.cell? ⟨rb, 6, none⟩ = some (.func (.func 108) #[] #[]) := (cOH hrx 6).trans rfl;have c1 : wr.cell? ⟨rb, 7, none⟩ = some (.int .i64 40) := (cOH hrx 7).trans rfl;clear hrx OR;obtain ⟨z, hz⟩ : ∃ z, z = ruleB s 3 := ⟨_, rfl⟩;have kc := rule3_any At ct Aw cw Ai ci s;rw [← hz] at kc;have KC := Lib.hid (And.intro kc hz);clear kc hz;obtain ⟨qb, hqb⟩ : ∃ b, b = wr.heap.size := ⟨_, rfl⟩;obtain ⟨X, hX⟩ : ∃ X, X = wr.alloc (.cells #[.func (.func 108) #[] #[], .int .i64 40] 186) := ⟨_, rfl⟩;go_upto_region 4 with fail
        rw [← hX, ← hqb];have bX : Below wr.heap.size wr X := by rw [hX]; exact (Below.refl _ _).alloc (Nat.le_refl _) _
        have gq : X.heap[qb]? = some (.cells #[.func (.func 108) #[] #[], .int .i64 40] 186 (0, 0)) := by rw [hX, hqb]; exact heap_alloc_new _ _
        have bX1 := HB.out.2.trans (bX.mono HB.out.2.size);have OX := HX.out.1.below bX1;have hsx := OX.heap 0 rfl;have s0 := (cOH hsx 0).trans rfl;have s1 := (cOH hsx 1).trans rfl;have s2 := (cOH hsx 2).trans rfl;have s3 := (cOH hsx 3).trans rfl;have s4 := (cOH hsx 4).trans rfl;have s5 := (cOH hsx 5).trans rfl;have s6 := (cOH hsx 6).trans rfl;have s7 := (cOH hsx 7).trans rfl;have s8 := (cOH hsx 8).trans rfl;have s9 := (cOH hsx 9).trans rfl;have s10 := (cOH hsx 10).trans rfl;have q0 : X.cell? ⟨qb, 0, none⟩ = some (.func (.func 108) #[] #[]) := (cOH gq 0).trans rfl;have zs := hL_ hsx;have zq := hL_ gq;have HG := Lib.hid (And.intro gq (And.intro OX.bel bX1));clear hX hqb bX gq bX1 OX hsx c0 c1 zr;cases z
        · go_wp2_with (go_at_call 108; refine (KC.out.1 _ (HX.out.2.below HG.out.2.1)).mono ?_; rintro e w' ⟨rfl, b1⟩; have HB1 := Lib.hid (HG.out.2.1.trans (b1.mono HG.out.2.1.size)); have gq := (b1.block _ (hL_ HG.out.1)).trans HG.out.1; have q1 : w'.cell? ⟨qb, 1, none⟩ = some (.int .i64 40) := (cOH gq 1).trans rfl; have zq := hL_ gq; clear b1 gq)
          go_ret;exact ⟨by rw [ship_no (k := 3) (by decide) HB.out.1 KC.out.2.symm]; rfl, HB1.out⟩
        · go_wp2_with (go_at_call 108; refine (KC.out.1 _ (HX.out.2.below HG.out.2.1)).mono ?_; rintro e w' ⟨rfl, b1⟩; have HB1 := Lib.hid (HG.out.2.2.trans (b1.mono HG.out.2.2.size)); clear b1)
          go_roundg (gk - 1);case measure => omega
          case rel => exact ⟨4, by omega, by go_num, fun j hj => by
            by_cases e : j = 3
            · subst e; exact KC.out.2.symm
            · exact HB.out.1 j (by omega), HB1.out⟩
      · have c0 : wr.cell? ⟨rb, 8, none⟩ = some (.func (.func 110) #[] #[]) := (cOH hrx 8).trans rfl;have c1 : wr.cell? ⟨rb, 9, none⟩ = some (.int .i64 40) := (cOH hrx 9).trans rfl;clear hrx OR;obtain ⟨z, hz⟩ : ∃ z, z = ruleB s 4 := ⟨_, rfl⟩;have kc := rule4_any At ct Aw cw Ai ci s;rw [← hz] at kc;have KC := Lib.hid (And.intro kc hz);clear kc hz;obtain ⟨qb, hqb⟩ : ∃ b, b = wr.heap.size := ⟨_, rfl⟩;obtain ⟨X, hX⟩ : ∃ X, X = wr.alloc (.cells #[.func (.func 110) #[] #[], .int .i64 40] 186) := ⟨_, rfl⟩;go_upto_region 4 with fail
        rw [← hX, ← hqb];have bX : Below wr.heap.size wr X := by rw [hX]; exact (Below.refl _ _).alloc (Nat.le_refl _) _
        have gq : X.heap[qb]? = some (.cells #[.func (.func 110) #[] #[], .int .i64 40] 186 (0, 0)) := by rw [hX, hqb]; exact heap_alloc_new _ _
        have bX1 := HB.out.2.trans (bX.mono HB.out.2.size);have OX := HX.out.1.below bX1;have hsx := OX.heap 0 rfl;have s0 := (cOH hsx 0).trans rfl;have s1 := (cOH hsx 1).trans rfl;have s2 := (cOH hsx 2).trans rfl;have s3 := (cOH hsx 3).trans rfl;have s4 := (cOH hsx 4).trans rfl;have s5 := (cOH hsx 5).trans rfl;have s6 := (cOH hsx 6).trans rfl;have s7 := (cOH hsx 7).trans rfl;have s8 := (cOH hsx 8).trans rfl;have s9 := (cOH hsx 9).trans rfl;have s10 := (cOH hsx 10).trans rfl;have q0 : X.cell? ⟨qb, 0, none⟩ = some (.func (.func 110) #[] #[]) := (cOH gq 0).trans rfl;have zs := hL_ hsx;have zq := hL_ gq;have HG := Lib.hid (And.intro gq (And.intro OX.bel bX1));clear hX hqb bX gq bX1 OX hsx c0 c1 zr;cases z
        · go_wp2_with (go_at_call 110; refine (KC.out.1 _ (HX.out.2.below HG.out.2.1)).mono ?_; rintro e w' ⟨rfl, b1⟩; have HB1 := Lib.hid (HG.out.2.1.trans (b1.mono HG.out.2.1.size)); have gq := (b1.block _ (hL_ HG.out.1)).trans HG.out.1; have q1 : w'.cell? ⟨qb, 1, none⟩ = some (.int .i64 40) := (cOH gq 1).trans rfl; have zq := hL_ gq; clear b1 gq)
          go_ret;exact ⟨by rw [ship_no (k := 4) (by decide) HB.out.1 KC.out.2.symm]; rfl, HB1.out⟩
        · go_wp2_with (go_at_call 110; refine (KC.out.1 _ (HX.out.2.below HG.out.2.1)).mono ?_; rintro e w' ⟨rfl, b1⟩; have HB1 := Lib.hid (HG.out.2.2.trans (b1.mono HG.out.2.2.size)); clear b1)
          go_roundg (gk - 1);case measure => omega
          case rel => exact ⟨5, by omega, by go_num, fun j hj => by
            by_cases e : j = 4
            · subst e; exact KC.out.2.symm
            · exact HB.out.1 j (by omega), HB1.out⟩
      · have c0 : wr.cell? ⟨rb, 10, none⟩ = some (.func (.func 111) #[] #[]) := (cOH hrx 10).trans rfl;have c1 : wr.cell? ⟨rb, 11, none⟩ = some (.int .i64 40) := (cOH hrx 11).trans rfl;clear hrx OR;obtain ⟨z, hz⟩ : ∃ z, z = ruleB s 5 := ⟨_, rfl⟩;have kc := rule5_any At ct Aw cw Ai ci s;rw [← hz] at kc;have KC := Lib.hid (And.intro kc hz);clear kc hz;obtain ⟨qb, hqb⟩ : ∃ b, b = wr.heap.size := ⟨_, rfl⟩;obtain ⟨X, hX⟩ : ∃ X, X = wr.alloc (.cells #[.func (.func 111) #[] #[], .int .i64 40] 186) := ⟨_, rfl⟩;go_upto_region 4 with fail
        rw [← hX, ← hqb];have bX : Below wr.heap.size wr X := by rw [hX]; exact (Below.refl _ _).alloc (Nat.le_refl _) _
        have gq : X.heap[qb]? = some (.cells #[.func (.func 111) #[] #[], .int .i64 40] 186 (0, 0)) := by rw [hX, hqb]; exact heap_alloc_new _ _
        have bX1 := HB.out.2.trans (bX.mono HB.out.2.size);have OX := HX.out.1.below bX1;have hsx := OX.heap 0 rfl;have s0 := (cOH hsx 0).trans rfl;have s1 := (cOH hsx 1).trans rfl;have s2 := (cOH hsx 2).trans rfl;have s3 := (cOH hsx 3).trans rfl;have s4 := (cOH hsx 4).trans rfl;have s5 := (cOH hsx 5).trans rfl;have s6 := (cOH hsx 6).trans rfl;have s7 := (cOH hsx 7).trans rfl;have s8 := (cOH hsx 8).trans rfl;have s9 := (cOH hsx 9).trans rfl;have s10 := (cOH hsx 10).trans rfl;have q0 : X.cell? ⟨qb, 0, none⟩ = some (.func (.func 111) #[] #[]) := (cOH gq 0).trans rfl;have zs := hL_ hsx;have zq := hL_ gq;have HG := Lib.hid (And.intro gq (And.intro OX.bel bX1));clear hX hqb bX gq bX1 OX hsx c0 c1 zr;cases z
        · go_wp2_with (go_at_call 111; refine (KC.out.1 _ (HX.out.2.below HG.out.2.1)).mono ?_; rintro e w' ⟨rfl, b1⟩; have HB1 := Lib.hid (HG.out.2.1.trans (b1.mono HG.out.2.1.size)); have gq := (b1.block _ (hL_ HG.out.1)).trans HG.out.1; have q1 : w'.cell? ⟨qb, 1, none⟩ = some (.int .i64 40) := (cOH gq 1).trans rfl; have zq := hL_ gq; clear b1 gq)
          go_ret;exact ⟨by rw [ship_no (k := 5) (by decide) HB.out.1 KC.out.2.symm]; rfl, HB1.out⟩
        · go_wp2_with (go_at_call 111; refine (KC.out.1 _ (HX.out.2.below HG.out.2.1)).mono ?_; rintro e w' ⟨rfl, b1⟩; have HB1 := Lib.hid (HG.out.2.2.trans (b1.mono HG.out.2.2.size)); clear b1)
          go_roundg (gk - 1);case measure => omega
          case rel => exact ⟨6, by omega, by go_num, fun j hj => by
            by_cases e : j = 5
            · subst e; exact KC.out.2.symm
            · exact HB.out.1 j (by omega), HB1.out⟩
    · obtain rfl : k = 6 := by omega
      go_wp2_with fail
      go_ret;exact ⟨by rw [ship_yes HB.out.1]; rfl, HX.out.1.bel.trans (HB.out.2.mono HX.out.1.bel.size)⟩
end Go.Proofs.YtalcinepeofmcaaGreat
namespace Go.Proofs.YtalcinepeofmcaaGreat
open Go Go.ChangeShapes Go.WideShapes Go.ChangeAt Go.RowKit Sp Pt Hu
section
variable {H : Type} {enc : TypeId × Value → H} {w : World}
instance : Inhabited Pnt := ⟨⟨0, 0⟩⟩
theorem el_vst : ∀ (fuel : Nat) (cs : List Value) (x : DataW H × List MemPlace), DataW.trod enc Tryz.prog w 0 (fun _ => true) true fuel 44 cs = some x → ∃ y : Vst, cs = vsc y ∧ True := by
  intro fuel cs x h;obtain ⟨h1, h2⟩ := flat_cells 3 44 [some .i64, some .i64, some .i64, some .i64] fuel cs x (by kernel_rfl) h;obtain ⟨_, e0, a0, rfl, _⟩ := h2 0 _ rfl;obtain ⟨_, e1, a1, rfl, _⟩ := h2 1 _ rfl;obtain ⟨_, e2, a2, rfl, _⟩ := h2 2 _ rfl;obtain ⟨_, e3, a3, rfl, _⟩ := h2 3 _ rfl
  match cs, h1, e0, e1, e2, e3 with
  | [_, _, _, _], _, e0, e1, e2, e3 =>
    simp at e0 e1 e2 e3;exact ⟨⟨a0, a1, a2, a3⟩, by rw [e0, e1, e2, e3]; rfl, trivial⟩
theorem el_plc : ∀ (fuel : Nat) (cs : List Value) (x : DataW H × List MemPlace), DataW.trod enc Tryz.prog w 0 (fun _ => true) true fuel 47 cs = some x → ∃ y : Plc, cs = plc y ∧ True := by
  intro fuel cs x h;obtain ⟨h1, h2⟩ := flat_cells 3 47 [some .i64, some .i64] fuel cs x (by kernel_rfl) h;obtain ⟨_, e0, a0, rfl, _⟩ := h2 0 _ rfl;obtain ⟨_, e1, a1, rfl, _⟩ := h2 1 _ rfl
  match cs, h1, e0, e1 with
  | [_, _], _, e0, e1 =>
    simp at e0 e1;exact ⟨⟨a0, a1⟩, by rw [e0, e1]; rfl, trivial⟩
theorem el_pnt : ∀ (fuel : Nat) (cs : List Value) (x : DataW H × List MemPlace), DataW.trod enc Tryz.prog w 0 (fun _ => true) true fuel 107 cs = some x → ∃ y : Pnt, cs = pnt y ∧ True := by
  intro fuel cs x h;obtain ⟨h1, h2⟩ := flat_cells 3 107 [some .i64, some .i64] fuel cs x (by kernel_rfl) h;obtain ⟨_, e0, a0, rfl, _⟩ := h2 0 _ rfl;obtain ⟨_, e1, a1, rfl, _⟩ := h2 1 _ rfl
  match cs, h1, e0, e1 with
  | [_, _], _, e0, e1 =>
    simp at e0 e1;exact ⟨⟨a0, a1⟩, by rw [e0, e1]; rfl, trivial⟩
theorem open_shp {r : Reach} {b0 : Nat} {v : Value} {d : DataW H} {ps : List MemPlace} (hval : Value.okWide Tryz.prog w r b0 30 v) (hd : DataW.Trod enc Tryz.prog w 0 (fun _ => true) true 30 v d ps) :
    ∃ (At : Option Addr) (ct : Nat) (Aw : Option Addr) (cw : Nat) (Ai : Option Addr) (ci : Nat) (s : Shp), v = .agg (shpV At ct Aw cw Ai ci s) ∧ Rd w 2 At s.thr.length (pnts s.thr) ∧ Rd w 2 Aw s.wat.length (pnts s.wat) ∧ Rd w 2 Ai s.ice.length (pnts s.ice) ∧ (At = none → ct = 0) ∧ (Aw = none → cw = 0) ∧ (Ai = none → ci = 0) := by
  obtain ⟨cs, rfl, fuel, h⟩ := open_agg Tryz.underlying30 hval hd;obtain ⟨xs, m, rfl, _, hlen, hxl, hf⟩ := DataW.trod_struct Tryz.underlying30 h;have hc : Tryz.prog.cellsOf 30 = 11 := by kernel_rfl
  have hi : Tryz.prog.cellsOf 3 = 1 := by kernel_rfl
  have hs : Tryz.prog.cellsOf 28 = 1 := by kernel_rfl
  have h2 : Tryz.prog.cellsOf 107 = 2 := by kernel_rfl
  rw [hc] at hlen;have get : ∀ i, i < 11 → ∃ y, xs[i]? = some y := fun i h => ⟨_, List.getElem?_eq_getElem (by rw [hxl]; exact h)⟩
  match hcs : cs.toList, hlen with
  | [c0, c1, c2, c3, c4, c5, c6, c7, c8, c9, c10], _ =>
    rw [hcs] at hf;obtain ⟨y0, e0⟩ := get 0 (by omega);have g0 := (hf 0 _ rfl).trans e0;obtain ⟨y1, e1⟩ := get 1 (by omega);have g1 := (hf 1 _ rfl).trans e1;obtain ⟨y2, e2⟩ := get 2 (by omega);have g2 := (hf 2 _ rfl).trans e2;obtain ⟨y3, e3⟩ := get 3 (by omega);have g3 := (hf 3 _ rfl).trans e3;obtain ⟨y4, e4⟩ := get 4 (by omega);have g4 := (hf 4 _ rfl).trans e4;obtain ⟨y5, e5⟩ := get 5 (by omega);have g5 := (hf 5 _ rfl).trans e5;obtain ⟨y6, e6⟩ := get 6 (by omega);have g6 := (hf 6 _ rfl).trans e6;obtain ⟨y7, e7⟩ := get 7 (by omega);have g7 := (hf 7 _ rfl).trans e7;obtain ⟨y8, e8⟩ := get 8 (by omega);have g8 := (hf 8 _ rfl).trans e8;obtain ⟨y9, e9⟩ := get 9 (by omega);have g9 := (hf 9 _ rfl).trans e9;obtain ⟨y10, e10⟩ := get 10 (by omega);have g10 := (hf 10 _ rfl).trans e10;simp [hs, hi] at g0 g1 g2 g3 g4 g5 g6 g7 g8 g9 g10;obtain ⟨n0, v0, _⟩ := DataW.trod_int Tryz.underlying3 g0;obtain ⟨n1, v1, _⟩ := DataW.trod_int Tryz.underlying3 g1;obtain ⟨n2, v2, _⟩ := DataW.trod_int Tryz.underlying3 g2;obtain ⟨n3, v3, _⟩ := DataW.trod_int Tryz.underlying3 g3;obtain ⟨A4, k4, l4, v4, r4, _, _, _, z4⟩ := open_rows Tryz.underlying28 h2 (by omega) el_pnt g4;obtain ⟨A5, k5, l5, v5, r5, _, _, _, z5⟩ := open_rows Tryz.underlying28 h2 (by omega) el_pnt g5;obtain ⟨A6, k6, l6, v6, r6, _, _, _, z6⟩ := open_rows Tryz.underlying28 h2 (by omega) el_pnt g6;obtain ⟨n7, v7, _⟩ := DataW.trod_int Tryz.underlying3 g7;obtain ⟨n8, v8, _⟩ := DataW.trod_int Tryz.underlying3 g8;obtain ⟨n9, v9, _⟩ := DataW.trod_int Tryz.underlying3 g9;obtain ⟨n10, v10, _⟩ := DataW.trod_int Tryz.underlying3 g10;simp at v0 v1 v2 v3 v4 v5 v6 v7 v8 v9 v10;refine ⟨A4, k4, A5, k5, A6, k6, ⟨n0, n1, n2, n3, l4, l5, l6, n7, n8, n9, n10⟩, ?_, r4, r5, r6, fun e => (z4 e).2, fun e => (z5 e).2, fun e => (z6 e).2⟩;rw [v0, v1, v2, v3, v4, v5, v6, v7, v8, v9, v10] at hcs;exact congrArg Value.agg (Array.ext' hcs)
end
end Go.Proofs.YtalcinepeofmcaaGreat
namespace Go.Proofs.YtalcinepeofmcaaGreat.Pt
open Sp
def vstOk (v : Vst) : Bool := within v.arr 0 1000 && (within v.last v.arr 2000 && (within v.stay 1 100 && within v.dra 10 3000))
def askedE (p : Prt) (l : List Vst) : Int := if checkP p ≠ 0 then checkP p else if 5 < l.length then 2 else if l.all vstOk = false then 1 else 0
def cmp1 (a b : Plc) : Int := if a.berth ≠ b.berth then a.berth - b.berth else a.start - b.start
def cmpPl : List Plc → List Plc → Int
  | [], [] => 0
  | [], _ :: _ => -1
  | _ :: _, [] => 1
  | a :: l, b :: m => if cmp1 a b ≠ 0 then cmp1 a b else cmpPl l m
structure Bst where
  least : Int
  found : List Plc
  places : List Plc
deriving DecidableEq, Inhabited
def bestLeaf (waiting : Int) (s : Bst) : Bst := if s.least < 0 ∨ waiting < s.least ∨ cmpPl s.places s.found < 0 then ⟨waiting, s.places, s.places⟩ else s
def vs (l : List Vst) (i : Nat) : Vst := l.getD i default
def seekS (p : Prt) (l : List Vst) : Nat → Int → List Int → List Bool → Bst → Bst
  | 0, waiting, _, _, s => if 0 ≤ s.least ∧ s.least < waiting then s else bestLeaf waiting s
  | n + 1, waiting, free, done, s =>
    if 0 ≤ s.least ∧ s.least < waiting then s else
    (List.range l.length).foldl (fun s i =>
      if done.getD i false then s else
      (List.range p.bts.length).foldl (fun s b =>
        if (p.bts.getD b default).depth < (vs l i).dra ∨ (vs l i).last < max (vs l i).arr (free.getD b 0) then s
        else seekS p l n (waiting + max (vs l i).arr (free.getD b 0) - (vs l i).arr) (free.set b (max (vs l i).arr (free.getD b 0) + (vs l i).stay)) (done.set i true)
          ⟨s.least, s.found, s.places.set i ⟨b, max (vs l i).arr (free.getD b 0)⟩⟩) s) s
def bestS (p : Prt) (l : List Vst) : Bst := seekS p l l.length 0 (List.replicate p.bts.length 0) (List.replicate l.length false) ⟨-1, [], List.replicate l.length ⟨0, 0⟩⟩
def bestE (p : Prt) (l : List Vst) : Int := if askedE p l ≠ 0 then askedE p l else if (bestS p l).least < 0 then 4 else 0
def bestN (p : Prt) (l : List Vst) : Int := if bestE p l = 0 then (bestS p l).least else 0
def bestV (p : Prt) (l : List Vst) : List Plc := if bestE p l = 0 then (bestS p l).found else []
end Go.Proofs.YtalcinepeofmcaaGreat.Pt
