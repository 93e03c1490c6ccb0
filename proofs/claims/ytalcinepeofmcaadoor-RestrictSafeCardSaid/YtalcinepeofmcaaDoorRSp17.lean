/- Plain law of RestrictSafe: a policy of one step that asks for a class; loads of ice below the step's severity. No program is named here. -/
import Derived.Test.YtalcinepeofmcaaDoorRSp5
import Derived.Test.YtalcinepeofmcaaDoorRSp15
import Derived.Test.YtalcinepeofmcaaDoorRSp16
import Derived.WalkKit
import Derived.Test.YtalcinepeofmcaaDoorRSp9
import Derived.Test.YtalcinepeofmcaaDoorRSp4
set_option linter.unusedVariables false
set_option linter.unusedSimpArgs false
namespace Go.Proofs.YtalcinepeofmcaaDoor
open Sp Hu

/-- the policy: a step that asks for a class from severity 1 on, and one behind m -/
def safeP (cl m : Int) : Pol := ⟨[⟨0, 0, 0, 0⟩, ⟨cl, 0, 1, 0⟩, ⟨6, 500000, m + 2, 0⟩], 1, 1, 0, 0⟩
theorem safe_check {cl m : Int} (hc : 1 ≤ cl ∧ cl ≤ 6) (hm : 0 ≤ m ∧ m ≤ 255) : checkS (safeP cl m) = 0 := by
  refine check_yes (by simp [safeP, within]) (by simp [badGlob, safeP, within]) ?_
  have g0 : goodAt (safeP cl m).steps 0 = true := by simp [goodAt, goodStep, safeP, within]
  have g1 : goodAt (safeP cl m).steps 1 = true := by simp [goodAt, goodStep, goodPair, safeP, within]; omega
  have g2 : goodAt (safeP cl m).steps 2 = true := by simp [goodAt, goodStep, goodPair, safeP, within]; omega
  show stepsOkN (safeP cl m).steps 3 = true
  simp only [stepsOkN, g0, g1, g2]; rfl
theorem safe_spn {cl m lo hi : Int} (hc : 1 ≤ cl ∧ cl ≤ 6) (hm : 0 ≤ m ∧ m ≤ 255) (hl : 0 ≤ lo ∧ lo ≤ hi ∧ hi ≤ 2000) : spnE (safeP cl m) [(lo, hi)] = 0 := by
  refine spn_ok (by rw [start_nil]; exact safe_check hc hm) (by simp) fun s hs => ?_
  rw [List.mem_singleton.1 hs]
  simp [badSpn, within]; omega
theorem slide_one (gr : Bool) (h : Int) : slide 1 gr [h] = [h] := by
  simp [slide, slideN, dq, pushD, popLen, headV]
theorem safe_pass {cl m h : Int} {v : Ves} (hh : 1 ≤ h ∧ h ≤ m) : passesS (safeP cl m) [h] v = [fulfils v ⟨cl, 0, 1, 0⟩] := by
  have e1 : raisedS (safeP cl m) [h] = [1] := by
    have e : slide (safeP cl m).hold false [h] = [h] := slide_one false h
    unfold raisedS
    rw [e]
    have eu : ups (safeP cl m) = [0, 1, m + 2] := rfl
    have : raisedAt (safeP cl m) [h] 0 = 1 := by
      unfold raisedAt
      rw [if_neg (by show ¬ ((0 : Nat) : Int) + 1 < 1; omega), eu]
      show upToN [0, 1, m + 2] h 3 = 1
      simp only [upToN, List.getD_cons_succ, List.getD_cons_zero]
      rw [if_neg (by omega), if_pos (by omega)]; rfl
    show [raisedAt (safeP cl m) [h] 0] = [1]
    rw [this]
  have e2 : keptS (safeP cl m) [h] = [2] := by
    have e : slide (safeP cl m).calm true [h] = [h] := slide_one true h
    unfold keptS
    rw [e]
    have eu : dns (safeP cl m) = [0, 0, 0] := rfl
    have : keptAt (safeP cl m) [h] 0 = 2 := by
      unfold keptAt
      rw [eu]
      show upToN [0, 0, 0] h 3 = 2
      simp only [upToN, List.getD_cons_succ, List.getD_cons_zero]
      rw [if_pos (by omega)]; rfl
    show [keptAt (safeP cl m) [h] 0] = [2]
    rw [this]
  have e3 : decidedS (safeP cl m) [h] = [1] := by
    unfold decidedS
    rw [e1, e2]; rfl
  have e4 : forceS (safeP cl m) [h] = [1] := by
    unfold forceS
    rw [e3]
    show (slide 1 false [1]).drop 0 = [1]
    rw [slide_one]; rfl
  unfold passesS
  rw [e4]; rfl
theorem safe_sureE {cl m lo hi cls : Int} (hc : 1 ≤ cl ∧ cl ≤ 6) (hm : 0 ≤ m ∧ m ≤ 255) (hl : 0 ≤ lo ∧ lo ≤ hi ∧ hi ≤ 2000) (hs : 1 ≤ cls ∧ cls ≤ 6) : sureE (safeP cl m) [(lo, hi)] ⟨cls, 0, false⟩ 0 = 0 := by
  unfold sureE
  rw [safe_spn hc hm hl, if_neg (fun h => h rfl), if_neg (by simp [vright, within]; omega), if_pos (by simp [within])]
theorem safe_sure {cl m lo hi cls : Int} (hc : 1 ≤ cl ∧ cl ≤ 6) (hm : 0 ≤ m ∧ m ≤ 255) (hl : 0 ≤ lo ∧ lo ≤ hi ∧ hi ≤ 2000) (hs : 1 ≤ cls ∧ cls ≤ 6) (h1 : 1 ≤ lo) (h2 : hi ≤ m) (hb : sureB (safeP cl m) [(lo, hi)] ⟨cls, 0, false⟩ 0 = true) : cl ≤ cls := by
  unfold sureB at hb
  rw [if_pos (safe_sureE hc hm hl hs)] at hb
  have e : ([(lo, hi)] : List (Int × Int)).map (·.2) = [hi] := rfl
  rw [e, safe_pass (by omega)] at hb
  simp [fulfils] at hb
  exact hb
theorem str_mono {a b : Int} (ha : 1 ≤ a) (hab : a ≤ b) (hb : b ≤ 6) : strL.getD (a - 1).toNat 0 ≤ strL.getD (b - 1).toNat 0 := by
  obtain ⟨i, hi⟩ : ∃ i : Nat, (a - 1).toNat = i := ⟨_, rfl⟩
  obtain ⟨j, hj⟩ : ∃ j : Nat, (b - 1).toNat = j := ⟨_, rfl⟩
  rw [hi, hj]
  have hij : i ≤ j := by omega
  have hj6 : j < 6 := by omega
  match j, hj6 with
  | 0, _ => obtain rfl : i = 0 := by omega
            decide
  | 1, _ => obtain rfl | rfl : i = 0 ∨ i = 1 := by omega
            all_goals decide
  | 2, _ => obtain rfl | rfl | rfl : i = 0 ∨ i = 1 ∨ i = 2 := by omega
            all_goals decide
  | 3, _ => obtain rfl | rfl | rfl | rfl : i = 0 ∨ i = 1 ∨ i = 2 ∨ i = 3 := by omega
            all_goals decide
  | 4, _ => obtain rfl | rfl | rfl | rfl | rfl : i = 0 ∨ i = 1 ∨ i = 2 ∨ i = 3 ∨ i = 4 := by omega
            all_goals decide
  | 5, _ => obtain rfl | rfl | rfl | rfl | rfl | rfl : i = 0 ∨ i = 1 ∨ i = 2 ∨ i = 3 ∨ i = 4 ∨ i = 5 := by omega
            all_goals decide
/-- the cell: all ice, no ridges -/
def safeC (x : Cel) : Cel := ⟨100, 100, x.b0, x.b1, 0, 0, x.d0, x.d1⟩
theorem safeC_ok {x : Cel} (h : celOk x = true) : celOk (safeC x) = true := by
  simp [celOk, spanOk, within] at h
  show celOk ⟨100, 100, x.b0, x.b1, 0, 0, x.d0, x.d1⟩ = true
  simp [celOk, spanOk, within]
  omega
theorem safe_bds {x : Cel} (h : celOk x = true) : (0 ≤ x.b0 ∧ x.b0 ≤ x.b1 ∧ x.b1 ≤ 400) ∧ (0 ≤ x.d0 ∧ x.d0 ≤ x.d1 ∧ x.d1 ≤ 3) := by
  simp [celOk, spanOk, within] at h
  omega
theorem safe_dist {x : Cel} (h : celOk x = true) : distE 1 1 0 [safeC x] [0] = 0 ∧ distV 1 1 0 [safeC x] [0] = (x.b0 + 50 * x.d0, x.b1 + 50 * x.d1) := by
  obtain ⟨⟨b0, b1, b2⟩, d0, d1, d2⟩ := safe_bds h
  have hc : chartE 1 1 0 [safeC x] = 0 := by
    unfold chartE
    have e1 : sizeE 1 1 0 = 0 := by decide
    rw [if_neg (by rw [e1]; decide), if_neg (by simp)]
    unfold celsE
    rw [if_pos (by simp [safeC_ok h])]
  have he : distE 1 1 0 [safeC x] [0] = 0 := by
    unfold distE
    rw [if_neg (by rw [hc]; decide), if_neg (by simp [outL, within])]
  refine ⟨he, ?_⟩
  unfold distV
  rw [if_pos he]
  have g : ∀ t q : Int, 0 ≤ t → 0 ≤ q → max (gradeS ⟨100, t, 0, q⟩) 0 = t + 50 * q := fun t q ht hq => by
    unfold gradeS
    have e : (100 * t).tdiv 100 = t := by rw [Int.tdiv_eq_ediv_of_nonneg (by omega)]; omega
    simp only [e]; omega
  exact Prod.ext (g x.b0 x.d0 b0 d0) (g x.b1 x.d1 (by omega) (by omega))
/-- the load of all ice of a severity, at the least speed -/
def seaI (m q : Int) : Ic := ⟨100, m - 50 * q, 0, q⟩
theorem sea_load (m q : Int) : loadS (seaI m q) 10 false = 110 * m - 3500 * q := by
  unfold loadS seaI
  rw [if_neg (by simp), if_neg (by simp)]
  simp only
  omega
def goodC (m k : Int) : Bool := decide (110 * m ≤ strL.getD (k - 1).toNat 0)
theorem sea_bey {s : Shp} {m q : Int} : beyI s 10 false (seaI m q) = !decide (110 * m - 3500 * q ≤ strL.getD (s.cls - 1).toNat 0) := by
  unfold beyI bearI
  rw [sea_load]
/-- what bears all ice of a severity bears each less one -/
theorem safe_bey {s : Shp} {x : Cel} {cl m : Int} (hx : celOk x = true) (hc : 1 ≤ cl) (hcs : cl ≤ s.cls) (hs : s.cls ≤ 6) (hg : goodC m cl = true) (hm : x.b1 + 50 * x.d1 ≤ m) : (endsL (safeC x)).any (beyI s 10 false) = false := by
  obtain ⟨⟨b0, b1, b2⟩, d0, d1, d2⟩ := safe_bds hx
  have h1 := str_mono hc hcs hs
  have h2 : 110 * m ≤ strL.getD (cl - 1).toNat 0 := by simpa [goodC] using hg
  rw [List.any_eq_false]
  intro i hi
  have key : ∀ t q : Int, t + 50 * q ≤ m → 0 ≤ q → ¬ beyI s 10 false ⟨100, t, 0, q⟩ = true := fun t q htq hq => by
    unfold beyI bearI loadS
    rw [if_neg (by simp), if_neg (by simp)]
    simp only [Bool.not_eq_true', decide_eq_false_iff_not]
    omega
  rcases endsL_mem hi with rfl | rfl
  · exact key x.b0 x.d0 (by omega) d0
  · exact key x.b1 x.d1 hm (by omega)
end Go.Proofs.YtalcinepeofmcaaDoor
/- breaker.Calm (printed by wip/tools/hull16.py) -/
namespace Go.Proofs.YtalcinepeofmcaaDoor
open Go Go.RowKit Sp Hu
set_option linter.unusedVariables false
set_option linter.unusedSimpArgs false

/-- a cell with one pressure -/
def prsC (x : Cel) (n : Int) : Cel := ⟨x.a0, x.a1, x.b0, x.b1, x.c0, x.c1, n, n⟩
theorem prsC_ok {x : Cel} (h : celOk x = true) {n : Int} (hn : 0 ≤ n ∧ n ≤ 3) : celOk (prsC x n) = true := by
  simp [celOk, spanOk, within] at h
  show celOk ⟨x.a0, x.a1, x.b0, x.b1, x.c0, x.c1, n, n⟩ = true
  simp [celOk, spanOk, within]
  omega
def CalmPost (s : Shp) (x : Cel) (w : World) (e : Ending) (w' : World) : Prop :=
  ∃ n k : Int, e = .returned (.tuple #[.int .i64 n, .int .i64 k]) ∧ ((k = 0 ∧ (0 ≤ n ∧ n ≤ 3) ∧ (endsL (prsC x n)).any (slowI s true) = false) ∨ (k = 4 ∧ n = 0)) ∧ Below w.heap.size w w'
set_option maxRecDepth 100000 in
set_option maxHeartbeats 4000000 in
theorem calm_any (At : Option Addr) (ct : Nat) (Aw : Option Addr) (cw : Nat) (Ai : Option Addr) (ci : Nat) (s : Shp) (x : Cel) (w : World) (R : ShR At Aw Ai s w) (h0 : shipE s = 0) (hx : celOk x = true) :
    Calls Tryd.prog 12 #[.agg (shpV At ct Aw cw Ai ci s), .agg (celA x)] w (CalmPost s x w) := by
  obtain ⟨W, hW⟩ : ∃ W, W = (w.alloc (.cells (shpV At ct Aw cw Ai ci s) 25)).alloc (.cells (celA x) 30) := ⟨_, rfl⟩
  obtain ⟨sb, hsb⟩ : ∃ b, b = w.heap.size := ⟨_, rfl⟩
  obtain ⟨cb, hcb⟩ : ∃ b, b = w.heap.size + 1 := ⟨_, rfl⟩
  have O : Own w.heap.size w [.blk sb (.cells (shpV At ct Aw cw Ai ci s) 25), .blk cb (.cells (celA x) 30)] W := by
    have h := ((Own.start w).alloc (.cells (shpV At ct Aw cw Ai ci s) 25)).alloc (.cells (celA x) 30)
    rw [hW, hsb, hcb]; simpa using h
  have kc := hucheck_any At ct Aw cw Ai ci s W (R.below O.bel)
  rw [h0] at kc
  have hce : celE x = 0 := by unfold celE; rw [if_pos hx]
  have kk : ∀ wx, Calls Tryd.prog 43 #[.agg (celA x)] wx fun e w' => e = .returned (.int .i64 0) ∧ Below wx.heap.size wx w' := fun wx => by
    rw [← hce]; exact checkCell_any x wx
  have HM := Lib.hid (And.intro kc (And.intro O (And.intro R (And.intro h0 (And.intro hx kk)))))
  have s_ := O.heap 0 rfl
  have c_ := O.heap 1 rfl
  have s0 : W.cell? ⟨sb, 0, none⟩ = some _ := (cell_of_heap s_ 0).trans rfl
  have s1 : W.cell? ⟨sb, 1, none⟩ = some _ := (cell_of_heap s_ 1).trans rfl
  have s2 : W.cell? ⟨sb, 2, none⟩ = some _ := (cell_of_heap s_ 2).trans rfl
  have s3 : W.cell? ⟨sb, 3, none⟩ = some _ := (cell_of_heap s_ 3).trans rfl
  have s4 : W.cell? ⟨sb, 4, none⟩ = some _ := (cell_of_heap s_ 4).trans rfl
  have s5 : W.cell? ⟨sb, 5, none⟩ = some _ := (cell_of_heap s_ 5).trans rfl
  have s6 : W.cell? ⟨sb, 6, none⟩ = some _ := (cell_of_heap s_ 6).trans rfl
  have s7 : W.cell? ⟨sb, 7, none⟩ = some _ := (cell_of_heap s_ 7).trans rfl
  have s8 : W.cell? ⟨sb, 8, none⟩ = some _ := (cell_of_heap s_ 8).trans rfl
  have s9 : W.cell? ⟨sb, 9, none⟩ = some _ := (cell_of_heap s_ 9).trans rfl
  have s10 : W.cell? ⟨sb, 10, none⟩ = some _ := (cell_of_heap s_ 10).trans rfl
  have k0 : W.cell? ⟨cb, 0, none⟩ = some _ := (cell_of_heap c_ 0).trans rfl
  have k1 : W.cell? ⟨cb, 1, none⟩ = some _ := (cell_of_heap c_ 1).trans rfl
  have k2 : W.cell? ⟨cb, 2, none⟩ = some _ := (cell_of_heap c_ 2).trans rfl
  have k3 : W.cell? ⟨cb, 3, none⟩ = some _ := (cell_of_heap c_ 3).trans rfl
  have k4 : W.cell? ⟨cb, 4, none⟩ = some _ := (cell_of_heap c_ 4).trans rfl
  have k5 : W.cell? ⟨cb, 5, none⟩ = some _ := (cell_of_heap c_ 5).trans rfl
  have k6 : W.cell? ⟨cb, 6, none⟩ = some _ := (cell_of_heap c_ 6).trans rfl
  have k7 : W.cell? ⟨cb, 7, none⟩ = some _ := (cell_of_heap c_ 7).trans rfl
  have zs := heap_lt s_
  have zc := heap_lt c_
  clear O kc kk hce s_ c_ R h0 hx
  go_enter Tryd.func12, Tryd.ntmps12
  go_upto_region 1 with fail
  rw [← hW, ← hcb, ← hsb]
  clear hW hcb hsb
  go_upto_region 4 with (go_at_call 42; refine HM.out.1.mono ?_; rintro e w1 ⟨rfl, b1⟩; have O1 := HM.out.2.1.below b1; have H1 := Lib.hid O1; clear b1 s0 s1 s2 s3 s4 s5 s6 s7 s8 s9 s10 k0 k1 k2 k3 k4 k5 k6 k7 zs zc; have c_ := O1.heap 1 rfl; have k0 : w1.cell? ⟨cb, 0, none⟩ = some _ := (cell_of_heap c_ 0).trans rfl; have k1 : w1.cell? ⟨cb, 1, none⟩ = some _ := (cell_of_heap c_ 1).trans rfl; have k2 : w1.cell? ⟨cb, 2, none⟩ = some _ := (cell_of_heap c_ 2).trans rfl; have k3 : w1.cell? ⟨cb, 3, none⟩ = some _ := (cell_of_heap c_ 3).trans rfl; have k4 : w1.cell? ⟨cb, 4, none⟩ = some _ := (cell_of_heap c_ 4).trans rfl; have k5 : w1.cell? ⟨cb, 5, none⟩ = some _ := (cell_of_heap c_ 5).trans rfl; have k6 : w1.cell? ⟨cb, 6, none⟩ = some _ := (cell_of_heap c_ 6).trans rfl; have k7 : w1.cell? ⟨cb, 7, none⟩ = some _ := (cell_of_heap c_ 7).trans rfl; have zc := heap_lt c_; clear O1 c_)
  go_upto_block 0 with (go_at_call 43; refine (HM.out.2.2.2.2.2 _).mono ?_; rintro e w2 ⟨rfl, b2⟩; have H2 := Lib.hid (H1.out.below b2); clear b2 k0 k1 k2 k3 k4 k5 k6 k7 zc)
  go_wp2_with fail
  go_loopw [8] (fun i wx => ∃ p d d' : Int, i = .int .i64 p ∧ (-1 ≤ p ∧ p ≤ 3) ∧ Own w.heap.size w [.blk sb (.cells (shpV At ct Aw cw Ai ci s) 25), .blk cb (.cells (celA ⟨x.a0, x.a1, x.b0, x.b1, x.c0, x.c1, d, d'⟩) 30)] wx) (fun i _ => (RowKit.intOf i + 1).toNat)
  case atStart => exact ⟨3, x.d0, x.d1, rfl, by omega, H2.out⟩
  case round =>
    obtain ⟨p, d, d', rfl, hp, hO⟩ := hrel
    by_cases hlt : 0 ≤ p
    · have c_ := hO.heap 1 rfl
      have f6 := frozen_of_heap c_ 6
      have f7 := frozen_of_heap c_ 7
      have zc := heap_lt c_
      have q6 : wr.cell? ⟨cb, 6, none⟩ = some _ := (cell_of_heap c_ 6).trans rfl
      have q7 : wr.cell? ⟨cb, 7, none⟩ = some _ := (cell_of_heap c_ 7).trans rfl
      have HO := Lib.hid hO
      clear hO c_
      go_upto_region 11 with fail
      obtain ⟨X, hX⟩ : ∃ X, X = (wr.setCell ⟨cb, 6, none⟩ (.int .i64 p)).setCell ⟨cb, 7, none⟩ (.int .i64 p) := ⟨_, rfl⟩
      rw [← hX]
      have OX : Own w.heap.size w [.blk sb (.cells (shpV At ct Aw cw Ai ci s) 25), .blk cb (.cells (celA (prsC x p)) 30)] X := by
        have h := HO.out.set 1 rfl (w' := X) (by rw [hX]; exact ((Keep.refl _ _).setCell (.inl (by simp)) _).setCell (.inl (by simp)) _) (by rw [hX]; exact heap_set (heap_set (HO.out.heap 1 rfl) 6 _) 7 _)
        exact h
      obtain ⟨z, hz⟩ : ∃ z, z = (endsL (prsC x p)).any (slowI s true) := ⟨_, rfl⟩
      obtain ⟨z2, hz2⟩ : ∃ z, z = (endsL (prsC x p)).all (slowI s true) := ⟨_, rfl⟩
      have kb := beset2_any At ct Aw cw Ai ci s (prsC x p) true X (HM.out.2.2.1.below OX.bel) HM.out.2.2.2.1 (prsC_ok HM.out.2.2.2.2.1 (by omega))
      rw [← hz, ← hz2] at kb
      have HK := Lib.hid (And.intro kb (And.intro OX hz))
      have s_ := OX.heap 0 rfl
      have c_ := OX.heap 1 rfl
      have s0 : X.cell? ⟨sb, 0, none⟩ = some _ := (cell_of_heap s_ 0).trans rfl
      have s1 : X.cell? ⟨sb, 1, none⟩ = some _ := (cell_of_heap s_ 1).trans rfl
      have s2 : X.cell? ⟨sb, 2, none⟩ = some _ := (cell_of_heap s_ 2).trans rfl
      have s3 : X.cell? ⟨sb, 3, none⟩ = some _ := (cell_of_heap s_ 3).trans rfl
      have s4 : X.cell? ⟨sb, 4, none⟩ = some _ := (cell_of_heap s_ 4).trans rfl
      have s5 : X.cell? ⟨sb, 5, none⟩ = some _ := (cell_of_heap s_ 5).trans rfl
      have s6 : X.cell? ⟨sb, 6, none⟩ = some _ := (cell_of_heap s_ 6).trans rfl
      have s7 : X.cell? ⟨sb, 7, none⟩ = some _ := (cell_of_heap s_ 7).trans rfl
      have s8 : X.cell? ⟨sb, 8, none⟩ = some _ := (cell_of_heap s_ 8).trans rfl
      have s9 : X.cell? ⟨sb, 9, none⟩ = some _ := (cell_of_heap s_ 9).trans rfl
      have s10 : X.cell? ⟨sb, 10, none⟩ = some _ := (cell_of_heap s_ 10).trans rfl
      have k0 : X.cell? ⟨cb, 0, none⟩ = some _ := (cell_of_heap c_ 0).trans rfl
      have k1 : X.cell? ⟨cb, 1, none⟩ = some _ := (cell_of_heap c_ 1).trans rfl
      have k2 : X.cell? ⟨cb, 2, none⟩ = some _ := (cell_of_heap c_ 2).trans rfl
      have k3 : X.cell? ⟨cb, 3, none⟩ = some _ := (cell_of_heap c_ 3).trans rfl
      have k4 : X.cell? ⟨cb, 4, none⟩ = some _ := (cell_of_heap c_ 4).trans rfl
      have k5 : X.cell? ⟨cb, 5, none⟩ = some _ := (cell_of_heap c_ 5).trans rfl
      have k6 : X.cell? ⟨cb, 6, none⟩ = some _ := (cell_of_heap c_ 6).trans rfl
      have k7 : X.cell? ⟨cb, 7, none⟩ = some _ := (cell_of_heap c_ 7).trans rfl
      have zs := heap_lt s_
      have zd := heap_lt c_
      clear kb OX hz hz2 s_ c_ f6 f7 q6 q7 zc hX
      cases z
      · go_wp2_with (go_at_call 13; refine HK.out.1.mono ?_; rintro e w3 ⟨rfl, b3⟩; have H3 := Lib.hid b3; clear b3 s0 s1 s2 s3 s4 s5 s6 s7 s8 s9 s10 k0 k1 k2 k3 k4 k5 k6 k7 zs zd)
        go_ret2
        exact ⟨p, 0, rfl, .inl ⟨rfl, ⟨hlt, hp.2⟩, HK.out.2.2.symm⟩, HK.out.2.1.bel.trans (H3.out.mono HK.out.2.1.lo)⟩
      · go_wp2_with (go_at_call 13; refine HK.out.1.mono ?_; rintro e w3 ⟨rfl, b3⟩; have H3 := Lib.hid (HK.out.2.1.below b3); clear b3 s0 s1 s2 s3 s4 s5 s6 s7 s8 s9 s10 k0 k1 k2 k3 k4 k5 k6 k7 zs zd)
        go_roundw
        case rel => exact ⟨p - 1, p, p, by go_num, by omega, H3.out⟩
        case measure => simp [RowKit.intOf]; omega
    · have hl : ¬ 0 ≤ p := hlt
      have HO := Lib.hid hO.bel
      clear hO
      go_wp2_with fail
      go_ret2
      exact ⟨0, 4, rfl, .inr ⟨rfl, rfl⟩, HO.out⟩
end Go.Proofs.YtalcinepeofmcaaDoor
/- The rest of a function's text from a statement on: for a great function's parts as theorems of their own. -/
namespace Go.Proofs.YtalcinepeofmcaaDoor
open Go

/-- is region n in it -/
def hasReg (n : Nat) : Code → Bool
  | .region k _ _ => k == n
  | .loop c => hasReg n c
  | .seq a b => hasReg n a || hasReg n b
  | .block _ c => hasReg n c
  | .scope c => hasReg n c
  | .cond _ a b => hasReg n a || hasReg n b
  | _ => false
/-- the rest of the sequence, beginning with the statement that holds region n -/
def restAt (n : Nat) : Code → Code
  | .seq a b => if hasReg n a then .seq a b else restAt n b
  | .scope c => restAt n c
  | c => c
noncomputable def restOf (f : Func) (n : Nat) : Code := restAt n (f.body.getD .skip)
end Go.Proofs.YtalcinepeofmcaaDoor
/- The loops of a function's text, in its order: for a loop's round as a theorem of its own. -/
namespace Go.Proofs.YtalcinepeofmcaaDoor
open Go

def loopsOf : Code → List Code
  | .loop c => c :: loopsOf c
  | .seq a b => loopsOf a ++ loopsOf b
  | .block _ c => loopsOf c
  | .scope c => loopsOf c
  | .cond _ a b => loopsOf a ++ loopsOf b
  | _ => []
noncomputable def loopBody (f : Func) (i : Nat) : Code := ((loopsOf (f.body.getD .skip))[i]?).getD .skip
end Go.Proofs.YtalcinepeofmcaaDoor
/- RestrictSafe: rounds (printed by wip/tools/safe.py) -/
namespace Go.Proofs.YtalcinepeofmcaaDoor
open Go Go.RowKit Go.Lib Sp Hu
set_option linter.unusedVariables false
set_option linter.unusedSimpArgs false

theorem sea_ok {m q : Int} (hm : 0 ≤ m ∧ m ≤ 255) (hq : 0 ≤ q ∧ q ≤ 3) (hqm : 50 * q ≤ m) : IcOk (seaI m q) := ⟨by simp [seaI], by simp only [seaI]; omega, by simp [seaI], by simp only [seaI]; omega⟩
theorem just_ok {i : Ic} (h : IcOk i) : celOk (justC i) = true := by
  obtain ⟨h1, h2, h3, h4⟩ := h
  show celOk ⟨i.con, i.con, i.thk, i.thk, i.rid, i.rid, i.prs, i.prs⟩ = true
  simp [celOk, spanOk, within]
  omega
theorem just_ends (i : Ic) : endsL (justC i) = [i] := by
  have h : difC (justC i) = false := by simp [difC, icD, loI, hiI, justC]
  rw [endsL_same h]; rfl
/-- a ship whose class is another one -/
def setCls (s : Shp) (k : Int) : Shp := ⟨k, s.pow, s.dra, s.ton, s.thr, s.wat, s.ice, s.slow, s.brash, s.ridge, s.press⟩
theorem setCls_ok {s : Shp} (h : shipE s = 0) {k : Int} (hk : 1 ≤ k ∧ k ≤ 6) : shipE (setCls s k) = 0 := by
  unfold shipE at h ⊢
  split at h
  · cases h
  · rename_i h1
    rw [if_neg (by show ¬ within k 1 6 = false; simp [within]; omega)]
    exact h
structure ShW (h : ShC) (w : World) : Prop where
  E : ShE h w
  G : StrG w
theorem ShW.below {h : ShC} {w w' : World} (H : ShW h w) (hb : Below w.heap.size w w') : ShW h w' := ⟨H.E.below hb, H.G.below hb⟩
theorem shl_of {s : Shp} (h : shipE s = 0) : ShL s := by
  have sok := shipE_ok h
  exact ⟨sok.1, sok.2.2.2.2.2.1, sok.2.2.2.2.2.2.1, sok.2.2.2.2.2.2.2.1, sok.2.2.1⟩
theorem ShE.rdS {h : ShC} {w : World} (E : ShE h w) (L : ShL h.s) : ShR h.At h.Aw h.Ai h.s w := ⟨E.rt, E.rw_, E.ri, by have := L.l1; omega, by have := L.l2; omega, by have := L.l3; omega⟩

set_option linter.unusedVariables false
def Sa21V (wr : World) (h : ShC) (m q : Int) (z : Bool) : Nat → Value → Prop
  | 0, v => v = .agg (shpV h.At h.ct h.Aw h.cw h.Ai h.ci h.s)
  | 1, v => v = .int .i64 m
  | 2, v => v = .int .i64 q
  | 3, v => v = .int .i64 (50 * q)
  | 4, v => v = .int .i64 (m - 50 * q)
  | 5, v => v = .int .i64 q
  | 6, v => v = .agg #[.int .i64 100, .int .i64 (m - 50 * q), .int .i64 0, .int .i64 q]
  | 7, v => v = .agg (justV (seaI m q))
  | 8, v => v = .tuple #[.bool z, .bool z, .int .i64 0]
  | 9, v => v = .tuple #[.bool z, .bool z, .int .i64 0]
  | 10, v => v = .bool z
  | 11, v => v = .bool z
  | 12, v => v = .int .i64 0
  | 13, v => v = .bool z
  | 14, v => v = .bool z
  | 15, v => v = .int .i64 0
  | _, _ => True
def Sa21W (wr : World) (h : ShC) (m q : Int) (z : Bool) (l : Nat → Bool) (w : World) : Prop := Below wr.heap.size wr w
set_option maxRecDepth 100000 in
set_option maxHeartbeats 4000000 in
theorem safe_p {h : ShC} {wr : World} {m q : Int} {b : Bool} (H : ShW h wr) (ok : shipE h.s = 0) (hm : 0 ≤ m ∧ m ≤ 255) (hq : 0 ≤ q ∧ q ≤ 3) (hqm : 50 * q ≤ m) {s0 s1 s2 s3 s4 s5 s6 s7 s8 s9 s10 s11 s13 s14 s18 s19 s20 s21 s22 s23 s24 s25 s26 s27 s28 s29 s30 s31 s32 s33 s34 s35 s36 s37 s38 s39 s40 s41 s42 s43 s44 s45 s46 s47 s48 s49 s50 s51 s52 s53 s54 s55 s56 s57 s58 s59 s60 s61 s62 s63 s64 s65 s66 s67 s68 s69 s70 s71 s72 s73 s74 s75 s76 s77 s78 s79 s80 s81 s82 s83 s84 s85 s86 s87 s88 s89 s90 s91 s92 s93 s94 s95 s96 s97 s98 s99 s100 s101 s102 s103 s104 s105 s106 s107 s108 s109 s110 s111 s112 s113 s114 s115 s116 s117 s118 s119 s120 s121 s122 s123 s124 s125 s126 s127 s128 s129 s130 s131 s132 s133 s134 s135 s136 s137 s138 s139 s140 s141 s142 s143 s144 s145 s146 s147 s148 s149 s150 s151 s152 s153 s154 s155 s156 s157 s158 s159 s160 s161 s162 s163 s164 s165 s166 s167 s168 s169 s170 s171 s172 s173 s174 s175 s176 s177 s178 s179 s180 s181 s182 s183 s184 s185 s186 s187 : Value} {Q0 : Exit → Act → World → Prop} {Inv : Act → World → Prop}
    (hInv : ∀ (t6 t18 t19 t20 t73 t74 t75 t76 t77 t78 t79 t80 t81 t82 t83 t84 t85 t86 t87 t88 t89 t90 t91 t92 t93 t94 t95 t96 t97 t98 t99 t100 t101 : Value)  (w' : World), Below wr.heap.size wr w' → Inv ⟨#[s0, s1, s2, s3, s4, s5, t6, s7, s8, s9, s10, s11, .int .i64 m, s13, s14, .pointer (some ⟨h.sb, 0, none⟩), .bool (b || beyI h.s 10 false (seaI m q)), .int .i64 (q + 1), t18, t19, t20, s21, s22, s23, s24, s25, s26, s27, s28, s29, s30, s31, s32, s33, s34, s35, s36, s37, s38, s39, s40, s41, s42, s43, s44, s45, s46, s47, s48, s49, s50, s51, s52, s53, s54, s55, s56, s57, s58, s59, s60, s61, s62, s63, s64, s65, s66, s67, s68, s69, s70, s71, s72, t73, t74, t75, t76, t77, t78, t79, t80, t81, t82, t83, t84, t85, t86, t87, t88, t89, t90, t91, t92, t93, t94, t95, t96, t97, t98, t99, t100, t101, s102, s103, s104, s105, s106, s107, s108, s109, s110, s111, s112, s113, s114, s115, s116, s117, s118, s119, s120, s121, s122, s123, s124, s125, s126, s127, s128, s129, s130, s131, s132, s133, s134, s135, s136, s137, s138, s139, s140, s141, s142, s143, s144, s145, s146, s147, s148, s149, s150, s151, s152, s153, s154, s155, s156, s157, s158, s159, s160, s161, s162, s163, s164, s165, s166, s167, s168, s169, s170, s171, s172, s173, s174, s175, s176, s177, s178, s179, s180, s181, s182, s183, s184, s185, s186, s187], []⟩ w') :
    Code.wp Tryd.prog (loopBody Tryd.f3 1) (Exit.then Inv Q0) ⟨#[s0, s1, s2, s3, s4, s5, s6, s7, s8, s9, s10, s11, .int .i64 m, s13, s14, .pointer (some ⟨h.sb, 0, none⟩), .bool b, .int .i64 q, s18, s19, s20, s21, s22, s23, s24, s25, s26, s27, s28, s29, s30, s31, s32, s33, s34, s35, s36, s37, s38, s39, s40, s41, s42, s43, s44, s45, s46, s47, s48, s49, s50, s51, s52, s53, s54, s55, s56, s57, s58, s59, s60, s61, s62, s63, s64, s65, s66, s67, s68, s69, s70, s71, s72, s73, s74, s75, s76, s77, s78, s79, s80, s81, s82, s83, s84, s85, s86, s87, s88, s89, s90, s91, s92, s93, s94, s95, s96, s97, s98, s99, s100, s101, s102, s103, s104, s105, s106, s107, s108, s109, s110, s111, s112, s113, s114, s115, s116, s117, s118, s119, s120, s121, s122, s123, s124, s125, s126, s127, s128, s129, s130, s131, s132, s133, s134, s135, s136, s137, s138, s139, s140, s141, s142, s143, s144, s145, s146, s147, s148, s149, s150, s151, s152, s153, s154, s155, s156, s157, s158, s159, s160, s161, s162, s163, s164, s165, s166, s167, s168, s169, s170, s171, s172, s173, s174, s175, s176, s177, s178, s179, s180, s181, s182, s183, s184, s185, s186, s187], []⟩ wr := by
  conv => arg 2; whnf
  obtain ⟨z, hz⟩ : ∃ z, z = beyI h.s 10 false (seaI m q) := ⟨_, rfl⟩
  have hi := sea_ok hm hq hqm
  have kj : ∀ wx, Calls Tryd.prog 9 #[.agg #[.int .i64 100, .int .i64 (m - 50 * q), .int .i64 0, .int .i64 q]] wx fun e w' => e = .returned (.agg (justV (seaI m q))) ∧ Below wx.heap.size wx w' := fun wx => just3_any (seaI m q) wx
  have kb : ∀ wx, Below wr.heap.size wr wx → Calls Tryd.prog 8 #[.agg (shpV h.At h.ct h.Aw h.cw h.Ai h.ci h.s), .agg (justV (seaI m q)), .int .i64 10, .bool false] wx fun e w' => e = .returned (.tuple #[.bool z, .bool z, .int .i64 0]) ∧ Below wx.heap.size wx w' := fun wx hb => by
    have k := beyond_any h.At h.ct h.Aw h.cw h.Ai h.ci h.s (justC (seaI m q)) 10 false wx ((H.below hb).E.rdS (shl_of ok)) ok (just_ok hi) (by decide) (H.below hb).G
    rw [just_ends] at k
    simp only [List.any_cons, List.any_nil, List.all_cons, List.all_nil, Bool.or_false, Bool.and_true] at k
    rw [hz]
    exact k
  have HE := Lib.hid H
  have KB := Lib.hid (And.intro kj kb)
  rw [← hz] at hInv
  have HI := Lib.hid hInv
  have g1 : q < 4 := by omega
  clear hInv H kj kb hz hi
  go_upto_region 21 with fail
  refine wp_region_steps (σ := Unit) (by kernel_rfl) (by kernel_rfl) (fun _ jx vx _ => Sa21V wr h m q z jx vx) (fun _ ly wx => Sa21W wr h m q z ly wx) () ?_ ?_ ?_
  · exact (Below.refl _ _).drew
  · simp only [AllFrom, Nat.zero_add, Nat.reduceAdd]
    refine ⟨?_, ?_, ?_, ?_, ?_, ?_, ?_, ?_, ?_, ?_, ?_, ?_, ?_, ?_, ?_, ?_, trivial⟩
    · refine step_pure fun sg ly a wx hl hd hW hF => ?_
      have et15 := hF.old 15 (by kernel_rfl)
      simp [Act.eval] at et15
      have ee := HE.out.E.below hW
      have zz := ee.lt
      have c0 := (cell_of_heap ee.hs 0).trans rfl
      have c1 := (cell_of_heap ee.hs 1).trans rfl
      have c2 := (cell_of_heap ee.hs 2).trans rfl
      have c3 := (cell_of_heap ee.hs 3).trans rfl
      have c4 := (cell_of_heap ee.hs 4).trans rfl
      have c5 := (cell_of_heap ee.hs 5).trans rfl
      have c6 := (cell_of_heap ee.hs 6).trans rfl
      have c7 := (cell_of_heap ee.hs 7).trans rfl
      have c8 := (cell_of_heap ee.hs 8).trans rfl
      have c9 := (cell_of_heap ee.hs 9).trans rfl
      have c10 := (cell_of_heap ee.hs 10).trans rfl
      exact ⟨hW, .agg (shpV h.At h.ct h.Aw h.cw h.Ai h.ci h.s), by go_simp, rfl⟩
    · refine step_pure fun sg ly a wr hl hd hW hF => ?_
      have et12 := hF.old 12 (by kernel_rfl)
      simp [Act.eval] at et12
      exact ⟨by simpa [Sa21W, upd] using hW, .int .i64 m, by go_simp, rfl⟩
    · refine step_pure fun sg ly a wr hl hd hW hF => ?_
      have et17 := hF.old 17 (by kernel_rfl)
      simp [Act.eval] at et17
      exact ⟨by simpa [Sa21W, upd] using hW, .int .i64 q, by go_simp, rfl⟩
    · refine step_pure fun sg ly a wr hl hd hW hF => ?_
      simp [Region.binds] at hd
      have et86 := hF.new 2 86 (by simp [hd]) rfl
      simp [Sa21V, Act.eval] at et86
      have ew := IntWalk.i64_in (50 * q) (by omega)
      exact ⟨by simpa [Sa21W, upd] using hW, .int .i64 (50 * q), by go_simp, rfl⟩
    · refine step_pure fun sg ly a wr hl hd hW hF => ?_
      simp [Region.binds] at hd
      have et85 := hF.new 1 85 (by simp [hd]) rfl
      simp [Sa21V, Act.eval] at et85
      have et87 := hF.new 3 87 (by simp [hd]) rfl
      simp [Sa21V, Act.eval] at et87
      have ew := IntWalk.i64_in (m - 50 * q) (by omega)
      exact ⟨by simpa [Sa21W, upd] using hW, .int .i64 (m - 50 * q), by go_simp, rfl⟩
    · refine step_pure fun sg ly a wr hl hd hW hF => ?_
      have et17 := hF.old 17 (by kernel_rfl)
      simp [Act.eval] at et17
      exact ⟨by simpa [Sa21W, upd] using hW, .int .i64 q, by go_simp, rfl⟩
    · refine step_pure fun sg ly a wr hl hd hW hF => ?_
      simp [Region.binds] at hd
      have et88 := hF.new 4 88 (by simp [hd]) rfl
      simp [Sa21V, Act.eval] at et88
      have et89 := hF.new 5 89 (by simp [hd]) rfl
      simp [Sa21V, Act.eval] at et89
      exact ⟨by simpa [Sa21W, upd] using hW, .agg #[.int .i64 100, .int .i64 (m - 50 * q), .int .i64 0, .int .i64 q], by go_simp, rfl⟩
    · refine step_call fun sg ly act wx hl hd hW hF => ?_
      simp [Region.binds] at hd
      have et90 := hF.new 6 90 (by simp [hd]) rfl
      simp [Sa21V, Act.eval] at et90
      refine ⟨9, #[.agg #[.int .i64 100, .int .i64 (m - 50 * q), .int .i64 0, .int .i64 q]], by go_simp, ?_⟩
      refine (KB.out.1 wx).mono ?_
      rintro e w2 ⟨rfl, hb⟩
      exact ⟨_, (), rfl, hW.trans (Below.mono hb hW.size), rfl, fun _ _ _ h => h⟩
    · refine step_call fun sg ly act wx hl hd hW hF => ?_
      simp [Region.binds] at hd
      have et84 := hF.new 0 84 (by simp [hd]) rfl
      simp [Sa21V, Act.eval] at et84
      have et91 := hF.new 7 91 (by simp [hd]) rfl
      simp [Sa21V, Act.eval] at et91
      refine ⟨8, #[.agg (shpV h.At h.ct h.Aw h.cw h.Ai h.ci h.s), .agg (justV (seaI m q)), .int .i64 10, .bool false], by go_simp, ?_⟩
      refine (KB.out.2 wx hW).mono ?_
      rintro e w2 ⟨rfl, hb⟩
      exact ⟨_, (), rfl, hW.trans (Below.mono hb hW.size), rfl, fun _ _ _ h => h⟩
    · refine step_pure fun sg ly a wr hl hd hW hF => ?_
      simp [Region.binds] at hd
      have et92 := hF.new 8 92 (by simp [hd]) rfl
      simp [Sa21V, Act.eval] at et92
      exact ⟨by simpa [Sa21W, upd] using hW, .tuple #[.bool z, .bool z, .int .i64 0], by go_simp, rfl⟩
    · refine step_pure fun sg ly a wr hl hd hW hF => ?_
      simp [Region.binds] at hd
      have et83 := hF.new 9 83 (by simp [hd]) rfl
      simp [Sa21V, Act.eval] at et83
      exact ⟨by simpa [Sa21W, upd] using hW, .bool z, by go_simp, rfl⟩
    · refine step_pure fun sg ly a wr hl hd hW hF => ?_
      simp [Region.binds] at hd
      have et83 := hF.new 9 83 (by simp [hd]) rfl
      simp [Sa21V, Act.eval] at et83
      exact ⟨by simpa [Sa21W, upd] using hW, .bool z, by go_simp, rfl⟩
    · refine step_pure fun sg ly a wr hl hd hW hF => ?_
      simp [Region.binds] at hd
      have et83 := hF.new 9 83 (by simp [hd]) rfl
      simp [Sa21V, Act.eval] at et83
      exact ⟨by simpa [Sa21W, upd] using hW, .int .i64 0, by go_simp, rfl⟩
    · refine step_pure fun sg ly a wr hl hd hW hF => ?_
      simp [Region.binds] at hd
      have et93 := hF.new 10 93 (by simp [hd]) rfl
      simp [Sa21V, Act.eval] at et93
      exact ⟨by simpa [Sa21W, upd] using hW, .bool z, by go_simp, rfl⟩
    · refine step_pure fun sg ly a wr hl hd hW hF => ?_
      simp [Region.binds] at hd
      have et94 := hF.new 11 94 (by simp [hd]) rfl
      simp [Sa21V, Act.eval] at et94
      exact ⟨by simpa [Sa21W, upd] using hW, .bool z, by go_simp, rfl⟩
    · refine step_pure fun sg ly a wr hl hd hW hF => ?_
      simp [Region.binds] at hd
      have et95 := hF.new 12 95 (by simp [hd]) rfl
      simp [Sa21V, Act.eval] at et95
      exact ⟨by simpa [Sa21W, upd] using hW, .int .i64 0, by go_simp, rfl⟩
  intro _ af w8 hWW hF
  have e18 := hF.new 13 18 (by decide) rfl
  have e19 := hF.new 14 19 (by decide) rfl
  have e20 := hF.new 15 20 (by decide) rfl
  obtain ⟨ff, hf, rfl⟩ := hF.lit
  have hB8 : Below wr.heap.size wr w8 := hWW
  rw [← hf] at e18 e19 e20
  simp only [Sa21V] at e18 e19 e20
  clear hf hF hWW
  simp only [List.filterMap, List.foldl, List.setIfInBounds_toArray, List.set_cons_succ, List.set_cons_zero, e18, e19, e20]
  clear e18 e19 e20
  cases b
  · go_wp2_with fail
    refine HI.out _ _ _ _ _ _ _ _ _ _ _ _ _ _ _ _ _ _ _ _ _ _ _ _ _ _ _ _ _ _ _ _ _ _ ?_
    exact hB8
  · go_wp2_with fail
    refine HI.out _ _ _ _ _ _ _ _ _ _ _ _ _ _ _ _ _ _ _ _ _ _ _ _ _ _ _ _ _ _ _ _ _ _ ?_
    exact hB8
set_option maxRecDepth 100000 in
set_option maxHeartbeats 4000000 in
theorem safe_k {h : ShC} {wr : World} {m cl k : Int} (H : ShW h wr) (ok : shipE h.s = 0) (hm : 0 ≤ m ∧ m ≤ 255) (hk : 1 ≤ k ∧ k ≤ 6) {s0 s1 s2 s3 s4 s5 s6 s8 s9 s10 s11 s15 s16 s17 s18 s19 s20 s21 s22 s23 s24 s25 s26 s27 s28 s29 s30 s31 s32 s33 s34 s35 s36 s37 s38 s39 s40 s41 s42 s43 s44 s45 s46 s47 s48 s49 s50 s51 s52 s53 s54 s55 s56 s57 s58 s59 s60 s61 s62 s63 s64 s65 s66 s67 s68 s69 s70 s71 s72 s73 s74 s75 s76 s77 s78 s79 s80 s81 s82 s83 s84 s85 s86 s87 s88 s89 s90 s91 s92 s93 s94 s95 s96 s97 s98 s99 s100 s101 s102 s103 s104 s105 s106 s107 s108 s109 s110 s111 s112 s113 s114 s115 s116 s117 s118 s119 s120 s121 s122 s123 s124 s125 s126 s127 s128 s129 s130 s131 s132 s133 s134 s135 s136 s137 s138 s139 s140 s141 s142 s143 s144 s145 s146 s147 s148 s149 s150 s151 s152 s153 s154 s155 s156 s157 s158 s159 s160 s161 s162 s163 s164 s165 s166 s167 s168 s169 s170 s171 s172 s173 s174 s175 s176 s177 s178 s179 s180 s181 s182 s183 s184 s185 s186 s187 : Value} {Q0 : Exit → Act → World → Prop} {Inv : Act → World → Prop}
    (hInv : ∀ (t6 t15 t16 t17 t18 t19 t20 t66 t67 t68 t69 t70 t71 t72 t73 t74 t75 t76 t77 t78 t79 t80 t81 t82 t83 t84 t85 t86 t87 t88 t89 t90 t91 t92 t93 t94 t95 t96 t97 t98 t99 t100 t101 t102 t103 t104 : Value) (c2 : Int) (w' : World), (c2 = cl ∨ (c2 = k ∧ goodC m k = true)) ∧ Below wr.heap.size wr w' → Inv ⟨#[s0, s1, s2, s3, s4, s5, t6, .pointer (some ⟨h.sb, 0, none⟩), s8, s9, s10, s11, .int .i64 m, .int .i64 c2, .int .i64 (k - 1), t15, t16, t17, t18, t19, t20, s21, s22, s23, s24, s25, s26, s27, s28, s29, s30, s31, s32, s33, s34, s35, s36, s37, s38, s39, s40, s41, s42, s43, s44, s45, s46, s47, s48, s49, s50, s51, s52, s53, s54, s55, s56, s57, s58, s59, s60, s61, s62, s63, s64, s65, t66, t67, t68, t69, t70, t71, t72, t73, t74, t75, t76, t77, t78, t79, t80, t81, t82, t83, t84, t85, t86, t87, t88, t89, t90, t91, t92, t93, t94, t95, t96, t97, t98, t99, t100, t101, t102, t103, t104, s105, s106, s107, s108, s109, s110, s111, s112, s113, s114, s115, s116, s117, s118, s119, s120, s121, s122, s123, s124, s125, s126, s127, s128, s129, s130, s131, s132, s133, s134, s135, s136, s137, s138, s139, s140, s141, s142, s143, s144, s145, s146, s147, s148, s149, s150, s151, s152, s153, s154, s155, s156, s157, s158, s159, s160, s161, s162, s163, s164, s165, s166, s167, s168, s169, s170, s171, s172, s173, s174, s175, s176, s177, s178, s179, s180, s181, s182, s183, s184, s185, s186, s187], []⟩ w') :
    Code.wp Tryd.prog (loopBody Tryd.f3 0) (Exit.then Inv Q0) ⟨#[s0, s1, s2, s3, s4, s5, s6, .pointer (some ⟨h.sb, 0, none⟩), s8, s9, s10, s11, .int .i64 m, .int .i64 cl, .int .i64 k, s15, s16, s17, s18, s19, s20, s21, s22, s23, s24, s25, s26, s27, s28, s29, s30, s31, s32, s33, s34, s35, s36, s37, s38, s39, s40, s41, s42, s43, s44, s45, s46, s47, s48, s49, s50, s51, s52, s53, s54, s55, s56, s57, s58, s59, s60, s61, s62, s63, s64, s65, s66, s67, s68, s69, s70, s71, s72, s73, s74, s75, s76, s77, s78, s79, s80, s81, s82, s83, s84, s85, s86, s87, s88, s89, s90, s91, s92, s93, s94, s95, s96, s97, s98, s99, s100, s101, s102, s103, s104, s105, s106, s107, s108, s109, s110, s111, s112, s113, s114, s115, s116, s117, s118, s119, s120, s121, s122, s123, s124, s125, s126, s127, s128, s129, s130, s131, s132, s133, s134, s135, s136, s137, s138, s139, s140, s141, s142, s143, s144, s145, s146, s147, s148, s149, s150, s151, s152, s153, s154, s155, s156, s157, s158, s159, s160, s161, s162, s163, s164, s165, s166, s167, s168, s169, s170, s171, s172, s173, s174, s175, s176, s177, s178, s179, s180, s181, s182, s183, s184, s185, s186, s187], []⟩ wr := by
  conv => arg 2; whnf
  obtain ⟨w0, rfl⟩ : ∃ x : World, x = wr := ⟨_, rfl⟩
  have s_ := H.E.hs
  have s0_ : w0.cell? ⟨h.sb, 0, none⟩ = some _ := (cell_of_heap s_ 0).trans rfl
  have s1_ : w0.cell? ⟨h.sb, 1, none⟩ = some _ := (cell_of_heap s_ 1).trans rfl
  have s2_ : w0.cell? ⟨h.sb, 2, none⟩ = some _ := (cell_of_heap s_ 2).trans rfl
  have s3_ : w0.cell? ⟨h.sb, 3, none⟩ = some _ := (cell_of_heap s_ 3).trans rfl
  have s4_ : w0.cell? ⟨h.sb, 4, none⟩ = some _ := (cell_of_heap s_ 4).trans rfl
  have s5_ : w0.cell? ⟨h.sb, 5, none⟩ = some _ := (cell_of_heap s_ 5).trans rfl
  have s6_ : w0.cell? ⟨h.sb, 6, none⟩ = some _ := (cell_of_heap s_ 6).trans rfl
  have s7_ : w0.cell? ⟨h.sb, 7, none⟩ = some _ := (cell_of_heap s_ 7).trans rfl
  have s8_ : w0.cell? ⟨h.sb, 8, none⟩ = some _ := (cell_of_heap s_ 8).trans rfl
  have s9_ : w0.cell? ⟨h.sb, 9, none⟩ = some _ := (cell_of_heap s_ 9).trans rfl
  have s10_ : w0.cell? ⟨h.sb, 10, none⟩ = some _ := (cell_of_heap s_ 10).trans rfl
  have zs := heap_lt s_
  obtain ⟨ht, hht⟩ : ∃ ht : ShC, ht = ⟨w0.heap.size, h.At, h.ct, h.Aw, h.cw, h.Ai, h.ci, setCls h.s k⟩ := ⟨_, rfl⟩
  obtain ⟨X, hX⟩ : ∃ X, X = w0.alloc (.cells (shpV h.At h.ct h.Aw h.cw h.Ai h.ci (setCls h.s k)) 25) := ⟨_, rfl⟩
  have bX : Below w0.heap.size w0 X := by rw [hX]; exact (Below.refl _ _).alloc (Nat.le_refl _) _
  have HT : ShW ht X := by
    have e := H.E.below bX
    refine ⟨?_, H.G.below bX⟩
    rw [hht]
    exact ⟨by rw [hX]; exact heap_alloc_new _ _, e.rt, e.rw_, e.ri⟩
  have okt : shipE ht.s = 0 := by rw [hht]; exact setCls_ok ok hk
  have et : ht.s.cls = k := by rw [hht]; rfl
  have hX2 : w0.alloc (.cells #[.int .i64 k, .int .i64 h.s.pow, .int .i64 h.s.dra, .int .i64 h.s.ton, .slice h.At h.s.thr.length h.ct, .slice h.Aw h.s.wat.length h.cw, .slice h.Ai h.s.ice.length h.ci, .int .i64 h.s.slow, .int .i64 h.s.brash, .int .i64 h.s.ridge, .int .i64 h.s.press] 25) = X := by rw [hX]; rfl
  have eb : w0.heap.size = ht.sb := by rw [hht]
  have HI := Lib.hid hInv
  have HQ := Lib.hid (And.intro HT (And.intro okt (And.intro et bX)))
  have HX2 := Lib.hid (And.intro hX2 eb)
  clear hInv H s_ hht hX bX HT okt et hX2 eb
  go_upto_region 18 with fail
  rw [HX2.out.1, HX2.out.2]
  clear s0_ s1_ s2_ s3_ s4_ s5_ s6_ s7_ s8_ s9_ s10_ zs HX2
  go_upto_block 2 with fail
  go_cut [16] from 73 to 101 (fun bv wx => ∃ b : Bool, bv = .bool b ∧ (b = false → goodC m k = true) ∧ Below X.heap.size X wx)
  case first =>
    go_wp2_with fail
    go_loopw [16, 17] (fun bv i wx => ∃ (b : Bool) (q : Int), bv = .bool b ∧ i = .int .i64 q ∧ (0 ≤ q ∧ q ≤ 4) ∧ (q = 0 ∨ (b = false → goodC m k = true)) ∧ Below X.heap.size X wx) (fun _ i _ => (5 - RowKit.intOf i).toNat)
    case atStart => exact ⟨false, 0, rfl, rfl, by omega, .inl rfl, Below.refl _ _⟩
    case round =>
      obtain ⟨b, q, rfl, rfl, hq, hg, bb⟩ := hrel
      by_cases hlt : q < 4 ∧ 50 * q ≤ m
      · refine safe_p (h := ht) (HQ.out.1.below bb) HQ.out.2.1 hm (by omega) hlt.2 ?_
        intros
        rename_i w' hr
        refine ⟨?_, by simp [RowKit.intOf]; omega⟩
        repeat apply Exists.intro
        refine ⟨?_, rfl⟩
        refine ⟨_, q + 1, rfl, rfl, by omega, .inr fun hb => ?_, bb.trans (hr.mono bb.size)⟩
        rw [Bool.or_eq_false_iff] at hb
        rcases hg with rfl | hg
        · have h2 := hb.2
          rw [sea_bey, HQ.out.2.2.1] at h2
          simp only [Bool.not_eq_false', decide_eq_true_eq] at h2
          unfold goodC
          rw [decide_eq_true_eq]
          omega
        · exact hg hb.1
      · have hq0 : q ≠ 0 := by omega
        have hgb := hg.resolve_left hq0
        have HG := Lib.hid (And.intro hgb bb)
        clear hg bb hgb
        by_cases h4 : q < 4
        · have h5 : ¬ 50 * q ≤ m := fun h => hlt ⟨h4, h⟩
          clear hlt
          go_wp2_with fail
          go_meet
          exact ⟨b, rfl, HG.out.1, HG.out.2⟩
        · clear hlt
          go_wp2_with fail
          go_meet
          exact ⟨b, rfl, HG.out.1, HG.out.2⟩
  case rest =>
    obtain ⟨b, rfl, hg, b4⟩ := hcut
    obtain ⟨w4, rfl, b4⟩ : ∃ wz, wz = _ ∧ Below X.heap.size X wz := ⟨_, rfl, b4⟩
    have HG := Lib.hid (And.intro hg (HQ.out.2.2.2.trans (b4.mono HQ.out.2.2.2.size)))
    clear hg b4
    cases b
    · go_wp2_with fail
      refine HI.out _ _ _ _ _ _ _ _ _ _ _ _ _ _ _ _ _ _ _ _ _ _ _ _ _ _ _ _ _ _ _ _ _ _ _ _ _ _ _ _ _ _ _ _ _ _ _ _ ?_
      exact ⟨.inr ⟨rfl, by first | exact HG.out.1 rfl | exact HG.out.1 trivial⟩, HG.out.2⟩
    · go_wp2_with fail
      refine HI.out _ _ _ _ _ _ _ _ _ _ _ _ _ _ _ _ _ _ _ _ _ _ _ _ _ _ _ _ _ _ _ _ _ _ _ _ _ _ _ _ _ _ _ _ _ _ _ _ ?_
      exact ⟨.inl rfl, HG.out.2⟩
end Go.Proofs.YtalcinepeofmcaaDoor
/- restrict.Windows -/
namespace Go.Proofs.YtalcinepeofmcaaDoor
open Go Go.RowKit Sp

/-- the windows of the first k days -/
def winN (l : List Bool) : Nat → List (Int × Int)
  | 0 => []
  | k + 1 => if l.getD k false then joinS (winN l k) k else winN l k
theorem joinS_length (L : List (Int × Int)) (d : Int) : (joinS L d).length ≤ L.length + 1 := by
  unfold joinS
  split
  · rename_i s hs
    have : L ≠ [] := by rintro rfl; cases hs
    have h1 : 0 < L.length := List.length_pos_iff.2 this
    split <;> simp <;> omega
  · simp
theorem winN_length (l : List Bool) (k : Nat) : (winN l k).length ≤ k := by
  induction k with
  | zero => exact Nat.le_refl _
  | succ k ih =>
    unfold winN
    split
    · exact Nat.le_trans (joinS_length _ _) (by omega)
    · omega
def windowsS (p : Pol) (days : List Int) (v : Ves) : List (Int × Int) := if askS p days v = 0 then winN (passesS p days v) days.length else []

def SpansAt (w : World) (A : Option Addr) (c : Nat) (L : List (Int × Int)) : Prop := Rd w 2 A L.length (spcs L) ∧ L.length ≤ c ∧ c ≤ 9223372036854775807
def WindowsPost (w : World) (p : Pol) (days : List Int) (v : Ves) (e : Ending) (w' : World) : Prop :=
  ∃ A c, e = .returned (.tuple #[.slice A (windowsS p days v).length c, .int .i64 (askS p days v)]) ∧ SpansAt w' A c (windowsS p days v) ∧ Below w.heap.size w w'

set_option maxRecDepth 100000 in
set_option maxHeartbeats 2000000 in
theorem Windows_any (As : Option Addr) (cs : Nat) (p : Pol) (A : Option Addr) (c : Nat) (days : List Int) (v : Ves) (w : World) (hp : PolV w As cs p) (hr : Rd w 1 A days.length (ints days)) (hm : days.length ≤ 9223372036854775807) :
    Calls Tryd.prog 34 #[.agg #[.slice As p.steps.length cs, .int .i64 p.hold, .int .i64 p.calm, .int .i64 p.notice, .int .i64 p.grace], .slice A days.length c, .agg #[.int .i64 v.cls, .int .i64 v.ton, .bool v.esc]] w (WindowsPost w p days v) := by
  obtain ⟨er, her⟩ : ∃ er, er = askS p days v := ⟨_, rfl⟩
  obtain ⟨n, hn⟩ : ∃ n, n = if er = 0 then days.length else 0 := ⟨_, rfl⟩
  have b0 : ∀ o o', Below w.heap.size w ((w.alloc o).alloc o') := fun o o' => ((Below.refl _ _).alloc (Nat.le_refl _) _).alloc (by simp) _
  have hak : ∀ o o', Calls Tryd.prog 63 #[.agg #[.slice As p.steps.length cs, .int .i64 p.hold, .int .i64 p.calm, .int .i64 p.notice, .int .i64 p.grace], .slice A days.length c, .agg #[.int .i64 v.cls, .int .i64 v.ton, .bool v.esc]]
      ((w.alloc o).alloc o')
      fun e w1 => ∃ A1 c1, e = .returned (.tuple #[.slice A1 n c1, .int .i64 er]) ∧ (er = 0 → BoolsAt w1 A1 c1 (passesS p days v)) ∧ Below w.heap.size w w1 := by
    intro o o'
    refine (asked8_any As cs p A c days v _ ⟨hp.1, hp.2.1, hp.2.2.below (b0 _ _)⟩ (hr.below (b0 _ _)) hm).mono ?_
    rintro e w1 ⟨A1, c1, rfl, h1, h2⟩
    exact ⟨A1, c1, by rw [hn, her], fun h => h1 (her.symm.trans h), (b0 _ _).trans (h2.mono (by simp; omega))⟩
  have HP := Lib.hid (And.intro her (And.intro hn hak))
  clear her hn hak b0 hr hp
  by_cases h0 : er = 0
  · subst h0
    have hne : ((0 : Int) != 0) = false := rfl
    obtain rfl : n = days.length := HP.out.2.1
    have hst : startS p days = 0 := by
      by_cases h : startS p days = 0
      · exact h
      · have := ask_start (v := v) h; rw [← HP.out.1] at this; exact absurd this.symm h
    obtain ⟨_, hl4, _⟩ := start_ok hst
    clear hst
    go_enter Tryd.func34, Tryd.ntmps34
    go_wp2_with fail
    refine (HP.out.2.2 _ _).mono ?_
    rintro e w1 ⟨A1, c1, rfl, h1, h2⟩
    obtain ⟨hr1, hc1, hc2⟩ := h1 trivial
    rw [passesS_length] at hr1 hc1
    have HB := Lib.hid h2
    clear h1 h2
    go_wp2_with fail
    obtain ⟨cb, hcb⟩ : ∃ cb, cb = w1.heap.size := ⟨_, rfl⟩
    rw [← hcb]
    obtain ⟨W, hW⟩ : ∃ W, W = w1.alloc (.cells #[.slice none 0 0] 55) := ⟨_, rfl⟩
    rw [← hW]
    have hh : W.heap[cb]? = some (.cells #[.slice none 0 0] 55 (0, 0)) := by rw [hW, hcb]; exact heap_alloc_new _ _
    have kW : Keep [] w1 W := by rw [hW]; exact (Keep.refl _ _).alloc _
    have zW : W.heap.size = cb + 1 := by rw [hW, hcb]; simp
    have hz := HB.out.size
    obtain ⟨l, hl⟩ : ∃ l, l = passesS p days v := ⟨_, rfl⟩
    have hll : l.length = days.length := by rw [hl, passesS_length]
    rw [← hl] at hr1
    have HL := Lib.hid (And.intro hl (And.intro kW hcb))
    clear hl hW kW hcb
    go_loopw [27] (fun i wr => ∃ (k : Nat) (fp : List Nat), k ≤ days.length ∧ i = .int .i64 k ∧ SpansIn wr cb (winN l k) fp ∧ (∀ g ∈ fp, cb + 1 ≤ g) ∧ Keep [cb] W wr)
      (fun i _ => days.length - (intOf i).toNat)
    case atStart => exact ⟨0, [], Nat.zero_le _, rfl, ⟨none, 0, hh, OwnS.nil _ _ _, by simp⟩, by simp, Keep.refl _ _⟩
    case round =>
      obtain ⟨k, fp, hk, rfl, hsp, hfp, hK⟩ := hrel
      by_cases hlt : k < days.length
      · obtain ⟨b, off, rfl, hb, hc⟩ := hr1.2 (by omega)
        have c0 : wr.cell? ⟨b, off + k, none⟩ = some (.bool (l.getD k false)) := hK.cell ((HL.out.2.1.cell (hc k _ (bools_get (by omega))) (by simp))) (by simp; have := HL.out.2.2; omega)
        obtain ⟨x, hx⟩ : ∃ x, x = l.getD k false := ⟨_, rfl⟩
        rw [← hx] at c0
        have HX := Lib.hid (And.intro hx (And.intro hsp (And.intro hfp hK)))
        clear hx hsp hfp hK hc hr1
        cases x
        · go_wp2_with fail
          go_roundw
          case rel =>
            refine ⟨k + 1, fp, by omega, by go_num, ?_, HX.out.2.2.1, HX.out.2.2.2⟩
            rw [winN, ← HX.out.1]; exact HX.out.2.1
          case measure => simp [intOf]; omega
        · have hwl := winN_length l k
          go_wp2_with (go_at_call 64; refine (joinW_any cb (winN l k) fp k wr HX.out.2.1 (by omega) (by omega)).mono ?_; rintro e w2 ⟨rfl, fp2, hs2, hf2, hk2⟩; have H2 := Lib.hid (And.intro hs2 (And.intro hf2 hk2)); clear hs2 hf2 hk2)
          go_roundw
          case rel =>
            have hwr := HX.out.2.2.2.size
            refine ⟨k + 1, fp2, by omega, by go_num, ?_, ?_, HX.out.2.2.2.trans H2.out.2.2 ?_⟩
            · rw [winN, ← HX.out.1]; exact H2.out.1
            · intro g hg
              rcases H2.out.2.1 g hg with h | h
              · exact HX.out.2.2.1 g h
              · omega
            · intro y hy
              rcases List.mem_cons.1 hy with h | h
              · exact .inl (by simp [h])
              · exact .inr (by have := HX.out.2.2.1 y h; omega)
          case measure => simp [intOf]; omega
      · obtain rfl : k = days.length := by omega
        obtain ⟨A2, c2, hh2, hown, hnc⟩ := hsp
        have c0 : wr.cell? ⟨cb, 0, none⟩ = some (.slice A2 (winN l days.length).length c2) := (cell_of_heap hh2 0).trans rfl
        have HO := Lib.hid (And.intro hown hK)
        clear hown hK hh2
        go_wp2_with fail
        go_ret2
        have he : windowsS p days v = winN l days.length := by unfold windowsS; rw [if_pos HP.out.1.symm, HL.out.1]
        refine ⟨A2, c2, by rw [he, ← HP.out.1]; rfl, by rw [he]; exact ⟨HO.out.1.rd, HO.out.1.ge, HO.out.1.cap⟩, ?_⟩
        have b1 : Below w1.heap.size w1 wr := (HL.out.2.1.below (Nat.le_refl _) (by simp)).trans (HO.out.2.below (by have := HL.out.2.2; omega) (by simp; have := HL.out.2.2; omega))
        exact HB.out.trans (b1.mono hz)
  · have hne : (er != 0) = true := by simp [h0]
    have HK := Lib.hid h0
    clear h0
    go_enter Tryd.func34, Tryd.ntmps34
    go_wp2_with fail
    refine (HP.out.2.2 _ _).mono ?_
    rintro e w1 ⟨A1, c1, rfl, h1, h2⟩
    have HB := Lib.hid h2
    clear h1 h2
    go_wp2_with fail
    go_ret2
    have he : windowsS p days v = [] := by unfold windowsS; rw [if_neg (by rw [← HP.out.1]; exact HK.out)]
    refine ⟨none, 0, by rw [he, ← HP.out.1]; rfl, by rw [he]; exact ⟨Rd.nil _ _ _, Nat.le_refl _, by omega⟩, HB.out⟩
end Go.Proofs.YtalcinepeofmcaaDoor
