import Derived.Test.YtalcinepeofmcaaGreatPBp22
import Derived.Test.YtalcinepeofmcaaGreatPBp4
import Derived.BigQuiet
set_option linter.unusedVariables false
set_option linter.unusedSimpArgs false
set_option maxRecDepth 100000
set_option maxHeartbeats 40000000
namespace Go.Proofs.YtalcinepeofmcaaGreat
open Go Go.RowKit Sp Hu
def icE (i : Ic) : Int := if within i.con 0 100 && within i.thk 0 400 && within i.rid 0 100 && within i.prs 0 3 then 0 else 20
abbrev icV (i : Ic) : Array Value := #[.int .i64 i.con, .int .i64 i.thk, .int .i64 i.rid, .int .i64 i.prs]
theorem huice_any (i : Ic) (w : World) : Calls Tryz.prog 99 #[.agg (icV i)] w fun e w' => e = .returned (.int .i64 (icE i)) ∧ Below w.heap.size w w' := checkIce_any ⟨i.con, i.thk, i.rid, i.prs⟩ w
def loadE (i : Ic) (v : Int) : Int := if icE i ≠ 0 then icE i else if within v 0 250 = false then 6 else 0
theorem loaded_any (i : Ic) (v : Int) (w : World) : Calls Tryz.prog 84 #[.agg (icV i), .int .i64 v] w fun e w' => e = .returned (.int .i64 (loadE i v)) ∧ Below w.heap.size w w' := by
  obtain ⟨X, hX⟩ : ∃ X, X = w.alloc (.cells (icV i) 141) := ⟨_, rfl⟩;have bX : Below w.heap.size w X := by rw [hX]; exact (Below.refl _ _).alloc (Nat.le_refl _) _
  obtain ⟨e, he⟩ : ∃ e, e = icE i := ⟨_, rfl⟩;have k0 := huice_any i X;rw [← he] at k0;have H0 := Lib.hid (And.intro k0 bX);unfold loadE;rw [← he];clear k0 bX;by_cases h0 : e = 0
  · subst h0;clear he;cases h1 : within v 0 250;all_goals
      go_enter Tryz.func84, Tryz.ntmps84
      go_upto_region 1 with fail
      rw [← hX];have hh : X.heap[w.heap.size]? = some (.cells (icV i) 141) := by rw [hX]; exact heap_alloc_new _ _
      have s0 := (cOH hh 0).trans rfl;have s1 := (cOH hh 1).trans rfl;have s2 := (cOH hh 2).trans rfl;have s3 := (cOH hh 3).trans rfl;have zs := hL_ hh;clear hX hh;go_wp2_with (first | (go_at_call 99; refine H0.out.1.mono ?_; rintro e w' ⟨rfl, b1⟩; have HB := Lib.hid (H0.out.2.trans (b1.mono H0.out.2.size)); clear b1) | (go_at_call 100; refine (huin_any _ _ _ _).mono ?_; rintro e w' ⟨rfl, rfl⟩))
      go_ret;exact ⟨rfl, HB.out⟩
  · have hn : (e != 0) = true := by simpa using h0
    rw [if_pos h0];clear he
    go_enter Tryz.func84, Tryz.ntmps84
    go_upto_region 1 with fail
    rw [← hX];have hh : X.heap[w.heap.size]? = some (.cells (icV i) 141) := by rw [hX]; exact heap_alloc_new _ _
    have s0 := (cOH hh 0).trans rfl;have s1 := (cOH hh 1).trans rfl;have s2 := (cOH hh 2).trans rfl;have s3 := (cOH hh 3).trans rfl;have zs := hL_ hh;clear hX hh;go_wp2_with (go_at_call 99; refine H0.out.1.mono ?_; rintro e w' ⟨rfl, b1⟩; have HB := Lib.hid (H0.out.2.trans (b1.mono H0.out.2.size)); clear b1)
    go_ret;exact ⟨rfl, HB.out⟩
def huAskedE (s : Shp) (i : Ic) (v : Int) : Int := if shipE s ≠ 0 then shipE s else loadE i v
theorem huasked_any (At : Option Addr) (ct : Nat) (Aw : Option Addr) (cw : Nat) (Ai : Option Addr) (ci : Nat) (s : Shp) (i : Ic) (v : Int) (w : World) (R : ShR At Aw Ai s w) :
    Calls Tryz.prog 60 #[.agg (shpV At ct Aw cw Ai ci s), .agg (icV i), .int .i64 v] w fun e w' => e = .returned (.int .i64 (huAskedE s i v)) ∧ Below w.heap.size w w' := by
  obtain ⟨X, hX⟩ : ∃ X, X = (w.alloc (.cells (shpV At ct Aw cw Ai ci s) 30)).alloc (.cells (icV i) 141) := ⟨_, rfl⟩;have O : Own w.heap.size w [.blk w.heap.size (.cells (shpV At ct Aw cw Ai ci s) 30), .blk (w.heap.size + 1) (.cells (icV i) 141)] X := by
    have h := ((Own.start w).alloc (.cells (shpV At ct Aw cw Ai ci s) 30)).alloc (.cells (icV i) 141);rw [hX]; simpa using h
  obtain ⟨e0, he⟩ : ∃ e, e = shipE s := ⟨_, rfl⟩;have k0 := hucheck_any At ct Aw cw Ai ci s X (R.below O.bel);rw [← he] at k0;have H0 := Lib.hid (And.intro k0 (And.intro O (loaded_any i v)));unfold huAskedE;rw [← he];clear k0 O he R;by_cases h0 : e0 = 0
  · subst h0
    go_enter Tryz.func60, Tryz.ntmps60
    go_upto_region 1 with fail
    rw [← hX];have hh := H0.out.2.1.heap 0 rfl;have s0 := (cOH hh 0).trans rfl;have s1 := (cOH hh 1).trans rfl;have s2 := (cOH hh 2).trans rfl;have s3 := (cOH hh 3).trans rfl;have s4 := (cOH hh 4).trans rfl;have s5 := (cOH hh 5).trans rfl;have s6 := (cOH hh 6).trans rfl;have s7 := (cOH hh 7).trans rfl;have s8 := (cOH hh 8).trans rfl;have s9 := (cOH hh 9).trans rfl;have s10 := (cOH hh 10).trans rfl;have zs := hL_ hh;clear hX hh;go_wp2_with (first | (go_at_call 83; refine H0.out.1.mono ?_; rintro e w' ⟨rfl, b1⟩; have O1 := H0.out.2.1.below b1; have h1 := O1.heap 1 rfl; have y0 := (cOH h1 0).trans rfl; have y1 := (cOH h1 1).trans rfl; have y2 := (cOH h1 2).trans rfl; have y3 := (cOH h1 3).trans rfl; have z1 := hL_ h1; have HB := Lib.hid O1; clear b1 O1 h1) | (go_at_call 84; refine (H0.out.2.2 _).mono ?_; rintro e w' ⟨rfl, b1⟩; have HB2 := Lib.hid (HB.out.bel.trans (b1.mono HB.out.bel.size)); clear b1))
    go_ret;exact ⟨rfl, HB2.out⟩
  · have hn : (e0 != 0) = true := by simpa using h0
    rw [if_pos h0]
    go_enter Tryz.func60, Tryz.ntmps60
    go_upto_region 1 with fail
    rw [← hX];have hh := H0.out.2.1.heap 0 rfl;have s0 := (cOH hh 0).trans rfl;have s1 := (cOH hh 1).trans rfl;have s2 := (cOH hh 2).trans rfl;have s3 := (cOH hh 3).trans rfl;have s4 := (cOH hh 4).trans rfl;have s5 := (cOH hh 5).trans rfl;have s6 := (cOH hh 6).trans rfl;have s7 := (cOH hh 7).trans rfl;have s8 := (cOH hh 8).trans rfl;have s9 := (cOH hh 9).trans rfl;have s10 := (cOH hh 10).trans rfl;have zs := hL_ hh;clear hX hh;go_wp2_with (go_at_call 83; refine H0.out.1.mono ?_; rintro e w' ⟨rfl, b1⟩; have HB := Lib.hid (H0.out.2.1.bel.trans (b1.mono H0.out.2.1.bel.size)); clear b1)
    go_ret;exact ⟨rfl, HB.out⟩
theorem r3in_any (n lo hi : Int) (w : World) : Calls Tryz.prog 90 #[.int .i64 n, .int .i64 lo, .int .i64 hi] w fun e w' => e = .returned (.bool (within n lo hi)) ∧ w = w' := by
  by_cases h1 : lo ≤ n <;> by_cases h2 : n ≤ hi
  all_goals
    go_enter Tryz.func90, Tryz.ntmps90
    go_wp2_with fail
    go_ret;exact ⟨by simp [within, h1, h2], rfl⟩
theorem r3curve_any (A : Option Addr) (c : Nat) (l : List Pnt) (w : World) (hr : Rd w 2 A l.length (pnts l)) (hm : l.length ≤ 1000) :
    Calls Tryz.prog 102 #[.slice A l.length c] w fun e w' => e = .returned (.bool (curveB l)) ∧ Below w.heap.size w w' := by
  cases h1 : within l.length 2 8
  · have hc : curveB l = false := by unfold curveB; rw [h1]; rfl
    rw [hc];have h2 : l.length < 2 ∨ 8 < l.length := by
      by_cases a : l.length < 2
      · exact .inl a
      · by_cases b : 8 < l.length
        · exact .inr b
        · have := Pt.within_iff.2 (show (2 : Int) ≤ (l.length : Int) ∧ (l.length : Int) ≤ 8 by omega);rw [h1] at this; cases this
    clear hr hc h1;rcases h2 with h2 | h2
    · go_enter Tryz.func102, Tryz.ntmps102
      go_wp2_with fail
      go_ret;exact ⟨rfl, Below.refl _ _⟩
    · have h3 : ¬ l.length < 2 := by omega
      go_enter Tryz.func102, Tryz.ntmps102
      go_wp2_with fail
      go_ret;exact ⟨rfl, Below.refl _ _⟩
  · have hl8 : 2 ≤ l.length ∧ l.length ≤ 8 := by have := Pt.within_iff.1 h1; omega
    have hl2 : ¬ l.length < 2 := by omega
    have hl9 : ¬ 8 < l.length := by omega
    obtain ⟨b, off, rfl, hb, hc⟩ := hr.2 (by omega);have g0 := (pnts_get (l := l) (k := 0) (by omega)).1;have c0 : w.cell? ⟨b, off, none⟩ = some (.int .i64 (l[0]'(by omega)).x) := hc _ _ g0;have hh : l.headD ⟨1, 0⟩ = l[0]'(by omega) := by cases l with
      | nil => simp at hl8
      | cons a l => rfl
    obtain ⟨x0, hx0⟩ : ∃ y, y = (l[0]'(by omega)).x := ⟨_, rfl⟩;rw [← hx0] at c0;have HC := Lib.hid (And.intro hc (And.intro hh (And.intro hx0 h1)));clear hr hc hh hx0 g0 h1;by_cases h0 : x0 = 0
    · subst h0
      go_enter Tryz.func102, Tryz.ntmps102
      go_wp2_with fail
      clear c0
      go_loopg [3] (l.length) (fun g i wr => ∃ k : Nat, g + k = l.length ∧ i = .int .i64 k ∧ (∀ j (h : j < l.length), j < k → pntB l[j] = true) ∧ (∀ j (h : j + 1 < l.length), j + 1 < k → l[j].x < l[j + 1].x) ∧ Below w.heap.size w wr)
      case atStart => exact ⟨0, rfl, rfl, fun _ _ h => by omega, fun _ _ h => by omega, Below.refl _ _⟩
      case round =>
        obtain ⟨k, hk, rfl, hp, hi, bb⟩ := hrel;have HB := Lib.hid (And.intro hp (And.intro hi bb));clear hp hi bb;by_cases hlt : k < l.length
        · have gk' := pnts_get (l := l) (k := k) hlt;have hb' : b < wr.heap.size := Nat.lt_of_lt_of_le hb HB.out.2.2.size;have ck0 := (HB.out.2.2.cell (p := ⟨b, off + k * 2, none⟩) hb).trans (HC.out.1 _ _ gk'.1);have ck1 : wr.cell? ⟨b, off + k * 2 + 1, none⟩ = some (.int .i64 l[k].y) := (HB.out.2.2.cell (p := ⟨b, off + k * 2 + 1, none⟩) hb).trans (by rw [Nat.add_assoc]; exact HC.out.1 _ _ gk'.2);obtain ⟨x, hx⟩ : ∃ y, y = l[k].x := ⟨_, rfl⟩;obtain ⟨y, hy⟩ : ∃ y, y = l[k].y := ⟨_, rfl⟩;rw [← hx] at ck0;rw [← hy] at ck1;have HX := Lib.hid (And.intro hx (And.intro hy HB.out.2.2));clear hx hy gk';cases e1 : within x 0 400
          · go_wp2_with (go_at_call 90; refine (r3in_any _ _ _ _).mono ?_; rintro e w' ⟨rfl, rfl⟩)
            go_ret;refine ⟨?_, HX.out.2.2⟩;have : l.all pntB = false := pnt_all hlt (by unfold pntB; rw [← HX.out.1, e1]; rfl);unfold curveB; rw [this]; simp
          · cases e2 : within y 0 20000
            · go_wp2_with (go_at_call 90; refine (r3in_any _ _ _ _).mono ?_; rintro e w' ⟨rfl, rfl⟩)
              go_ret;refine ⟨?_, HX.out.2.2⟩;have : l.all pntB = false := pnt_all hlt (by unfold pntB; rw [← HX.out.2.1, e2]; simp);unfold curveB; rw [this]; simp
            · by_cases hk0 : k = 0
              · subst hk0;simp only [Nat.zero_mul, Nat.add_zero] at ck0 ck1;have d0 : decide ((0 : Int) < 0) = false := by decide
                go_wp2_with (go_at_call 90; refine (r3in_any _ _ _ _).mono ?_; rintro e w' ⟨rfl, rfl⟩)
                go_quiet (fail);go_wp2_with fail
                go_roundg (gk - 1);case measure => omega
                case rel =>
                  refine ⟨1, by omega, by go_num, fun j h h2 => ?_, fun j h h2 => by omega, below_drewN HX.out.2.2 _⟩;obtain rfl : j = 0 := by omega
                  unfold pntB; rw [← HX.out.1, ← HX.out.2.1, e1, e2]; rfl
              · obtain ⟨j, rfl⟩ : ∃ j, k = j + 1 := ⟨k - 1, by omega⟩;have gj := (pnts_get (l := l) (k := j) (by omega)).1;have cj := (HX.out.2.2.cell (p := ⟨b, off + j * 2, none⟩) hb).trans (HC.out.1 _ _ gj);obtain ⟨xj, hxj⟩ : ∃ y, y = (l[j]'(by omega)).x := ⟨_, rfl⟩;rw [← hxj] at cj;have hjj : ((j + 1 : Nat) : Int) - 1 = (j : Int) := by omega
                have hj0 : decide (0 < ((j + 1 : Nat) : Int)) = true := decide_eq_true (by omega);have HJ := Lib.hid hxj;clear hxj gj;by_cases hle : x ≤ xj
                · have d1 : decide (x ≤ xj) = true := decide_eq_true hle;go_wp2_with (go_at_call 90; refine (r3in_any _ _ _ _).mono ?_; rintro e w' ⟨rfl, rfl⟩)
                  go_quiet (fail);go_wp2_with fail
                  go_ret;refine ⟨?_, below_drewN HX.out.2.2 _⟩;have : incB l = false := incB_no (j := j) hlt (by rw [← HX.out.1, ← HJ.out]; exact hle);unfold curveB; rw [this]; simp
                · have d1 : decide (x ≤ xj) = false := decide_eq_false hle;go_wp2_with (go_at_call 90; refine (r3in_any _ _ _ _).mono ?_; rintro e w' ⟨rfl, rfl⟩)
                  go_quiet (fail);go_wp2_with fail
                  go_roundg (gk - 1);case measure => omega
                  case rel =>
                    refine ⟨j + 2, by omega, by go_num, fun i h h2 => ?_, fun i h h2 => ?_, below_drewN HX.out.2.2 _⟩
                    · by_cases hi : i = j + 1
                      · subst hi;unfold pntB; rw [← HX.out.1, ← HX.out.2.1, e1, e2]; rfl
                      · exact HB.out.1 i h (by omega)
                    · by_cases hi : i = j
                      · subst hi;rw [← HX.out.1, ← HJ.out]; omega
                      · exact HB.out.2.1 i h (by omega)
        · obtain rfl : l.length = k := by omega
          go_wp2_with fail
          go_ret;refine ⟨?_, HB.out.2.2⟩;have a1 : l.all pntB = true := List.all_eq_true.2 fun q hq => by
            obtain ⟨j, hj, rfl⟩ := List.mem_iff_getElem.1 hq;exact HB.out.1 j hj hj
          have a2 : incB l = true := incB_adj fun j hj => HB.out.2.1 j hj hj;unfold curveB;rw [HC.out.2.2.2, a1, a2, HC.out.2.1, ← HC.out.2.2.1]; rfl
    · have hc : curveB l = false := by unfold curveB; rw [HC.out.2.1, ← HC.out.2.2.1, decide_eq_false h0]; simp
      rw [hc];have hn : (x0 != 0) = true := by simpa using h0
      go_enter Tryz.func102, Tryz.ntmps102
      go_wp2_with fail
      go_ret;exact ⟨rfl, Below.refl _ _⟩
theorem r3whole_any (i : Ic) (w : World) : Calls Tryz.prog 89 #[.agg (icV i)] w fun e w' => e = .returned (.bool (within i.con 0 100 && within i.thk 0 400 && within i.rid 0 100 && within i.prs 0 3)) ∧ Below w.heap.size w w' := by
  have bX : Below w.heap.size w (w.alloc (.cells (icV i) 150)) := (Below.refl _ _).alloc (Nat.le_refl _) _;cases h0 : within i.con 0 100 <;> cases h1 : within i.thk 0 400 <;> cases h2 : within i.rid 0 100 <;> cases h3 : within i.prs 0 3
  all_goals
    go_enter Tryz.func89, Tryz.ntmps89
    go_wp2_with (go_at_call 90; refine (r3in_any _ _ _ _).mono ?_; rintro e w' ⟨rfl, rfl⟩)
    go_ret;exact ⟨by rfl, bX⟩
def Hf9V (b off n c k j : Nat) (pa pb : Pnt) (s : HvS) : Nat → Value → Prop
  | 0, v => v = .slice (some ⟨b, off, none⟩) n c
  | 1, v => v = .int .i64 j
  | 2, v => v = .pointer (some ⟨b, off + j * 2, none⟩)
  | 3, v => v = .agg #[.int .i64 pa.x, .int .i64 pa.y]
  | 4, v => v = .slice (some ⟨b, off, none⟩) n c
  | 5, v => v = .int .i64 j
  | 6, v => v = .int .i64 k
  | 7, v => v = .pointer (some ⟨b, off + k * 2, none⟩)
  | 8, v => v = .agg #[.int .i64 pb.x, .int .i64 pb.y]
  | 9, v => v = .pointer (some ⟨s.b1, 0, none⟩)
  | 10, v => v = .pointer (some ⟨s.b2, 0, none⟩)
  | _, _ => True
theorem r3frac_any (A : Option Addr) (c : Nat) (l : List Pnt) (x : Int) (w : World) (hr : Rd w 2 A l.length (pnts l)) (hcv : Crv l) (hm : l.length ≤ 8) (hx : 0 ≤ x ∧ x ≤ 1000) :
    Calls Tryz.prog 103 #[.slice A l.length c, .int .i64 x] w fun e w' => e = .returned (.tuple #[.int .i64 (frac l x).1, .int .i64 (frac l x).2]) ∧ Below w.heap.size w w' := by
  have hl2 := hcv.two;obtain ⟨b, off, rfl, hb, hc⟩ := hr.2 (by omega);obtain ⟨n, hn⟩ : ∃ n, l.length = n + 1 := ⟨l.length - 1, by omega⟩;have hn8 : n < l.length ∧ l.length ≤ n + 1 ∧ l.length ≤ 8 := by omega
  have g := pnts_get (l := l) (k := n) hn8.1;have c0 := hc _ _ g.1;have c1 : w.cell? ⟨b, off + n * 2 + 1, none⟩ = some (.int .i64 (l[n]'hn8.1).y) := by rw [Nat.add_assoc]; exact hc _ _ g.2
  have hlast : l.getLastD ⟨0, 0⟩ = l[n]'hn8.1 := by
    rw [List.getLastD_eq_getLast?, List.getLast?_eq_getElem?, show l.length - 1 = n by omega, List.getElem?_eq_getElem (by omega)]; rfl
  obtain ⟨pz, hpz⟩ : ∃ q, q = l[n]'hn8.1 := ⟨_, rfl⟩;rw [← hpz] at c0 c1 hlast;have hff : frac l x = if pz.x ≤ x then (pz.y, 1) else seg l x := by
    unfold frac endX;rw [if_neg hcv.ne, hlast]
  have hnl : ((l.length : Nat) : Int) - 1 = (n : Int) := by omega
  obtain ⟨X, hX⟩ : ∃ X, X = w.alloc (.cells #[.int .i64 pz.x, .int .i64 pz.y] 152) := ⟨_, rfl⟩;obtain ⟨qb, hqb⟩ : ∃ q, q = w.heap.size := ⟨_, rfl⟩;have bX : Below w.heap.size w X := by rw [hX]; exact (Below.refl _ _).alloc (Nat.le_refl _) _
  have gq : X.heap[qb]? = some (.cells #[.int .i64 pz.x, .int .i64 pz.y] 152 (0, 0)) := by rw [hX, hqb]; exact heap_alloc_new _ _
  have q0 := (cOH gq 0).trans rfl;have q1 := (cOH gq 1).trans rfl;have zq := hL_ gq;have HC := Lib.hid (And.intro hc (And.intro (And.intro hcv hff) (And.intro hpz bX)));have HN := Lib.hid hn;have hz : ¬ l.length = 0 := by omega
  clear hr hc hcv hff hlast hpz g bX gq hn
  go_enter Tryz.func103, Tryz.ntmps103
  go_upto_region 4 with fail
  rw [← hX, ← hqb];clear hX hqb c0 c1;by_cases hle : pz.x ≤ x
  · go_wp2_with fail
    go_ret2
    exact ⟨by rw [HC.out.2.1.2, if_pos hle]; rfl, HC.out.2.2.2⟩
  · go_wp2_with fail
    clear q0 q1 zq
    go_loopg [7] (l.length) (fun g i wr => ∃ k : Nat, g + k = l.length ∧ k + 1 < l.length ∧ i = .int .i64 k ∧ seg (l.drop k) x = seg l x ∧ Below w.heap.size w wr)
    case atStart => exact ⟨0, rfl, by omega, rfl, rfl, HC.out.2.2.2⟩
    case round =>
      obtain ⟨j, hk, hk1, rfl, hv, bb⟩ := hrel;obtain ⟨k, hkj⟩ : ∃ k, k = j + 1 := ⟨_, rfl⟩;have HKJ := Lib.hid hkj;have hj1 : j < k ∧ k ≤ j + 1 ∧ k < l.length := by omega
      have hjk : (j : Int) + 1 = (k : Int) := by omega
      clear hkj hk1;have HB := Lib.hid (And.intro bb hv);clear bb hv;have hlt : k < l.length := by omega
      have hjl : j < l.length := by omega
      have gj := pnts_get (l := l) (k := j) hjl;have gk' := pnts_get (l := l) (k := k) hlt;have hbw : b < wr.heap.size := Nat.lt_of_lt_of_le hb HB.out.1.size;have hpa := HC.out.2.1.1.rng _ (List.getElem_mem hjl);have hpb := HC.out.2.1.1.rng _ (List.getElem_mem hlt);have cj0 := (HB.out.1.cell (p := ⟨b, off + j * 2, none⟩) hb).trans (HC.out.1 _ _ gj.1);have cj1 : wr.cell? ⟨b, off + j * 2 + 1, none⟩ = some (.int .i64 l[j].y) := (HB.out.1.cell (p := ⟨b, off + j * 2 + 1, none⟩) hb).trans (by rw [Nat.add_assoc]; exact HC.out.1 _ _ gj.2);have ck0 := (HB.out.1.cell (p := ⟨b, off + k * 2, none⟩) hb).trans (HC.out.1 _ _ gk'.1);have ck1 : wr.cell? ⟨b, off + k * 2 + 1, none⟩ = some (.int .i64 l[k].y) := (HB.out.1.cell (p := ⟨b, off + k * 2 + 1, none⟩) hb).trans (by rw [Nat.add_assoc]; exact HC.out.1 _ _ gk'.2);have hd : l.drop j = l[j] :: l[k] :: l.drop (k + 1) := by
        rw [List.drop_eq_getElem_cons hjl]
        congr 1
        have e := HKJ.out;subst e;rw [List.drop_eq_getElem_cons hlt]
      have hdk : l.drop k = l[k] :: l.drop (k + 1) := List.drop_eq_getElem_cons hlt;have hlz : k + 1 = l.length → l[k] = pz := fun e => by
        have e2 : k = n := by omega
        rw [HC.out.2.2.1]
        congr 1
      obtain ⟨pa, hpae⟩ : ∃ q, q = l[j] := ⟨_, rfl⟩;obtain ⟨pb, hpbe⟩ : ∃ q, q = l[k] := ⟨_, rfl⟩;rw [← hpae] at hpa cj0 cj1 hd;rw [← hpbe] at hpb ck0 ck1 hd hdk hlz;have hvv := HB.out.2;rw [hd, seg] at hvv;have HV := Lib.hid (And.intro hvv (And.intro hdk hlz));have zb := hbw;clear hd hdk hvv hpae hpbe gj gk' hbw hlz;by_cases hle2 : pb.x ≤ x
      · have e1 := HV.out.1;rw [if_pos hle2, ← HV.out.2.1] at e1;have hk2 : k + 1 < l.length := by
          by_cases e : k + 1 = l.length
          · have := HV.out.2.2 e;rw [this] at hle2;omega
          · omega
        have HE := Lib.hid e1;clear e1 cj0 cj1;go_wp2_with fail
        go_roundg (gk - 1);case measure => omega
        case rel => exact ⟨k, by omega, hk2, by go_num, HE.out, HB.out.1⟩
      · have e1 := HV.out.1;rw [if_neg hle2] at e1;have HE := Lib.hid e1;have HP := Lib.hid (And.intro (And.intro cj0 cj1) (And.intro ck0 ck1));clear e1 cj0 cj1 ck1;go_upto_region 9 with fail
        clear ck0 hjk;refine wRS (σ := HvS) (by kernel_rfl) (by kernel_rfl) (fun sg jx vx _ => Hf9V b off l.length c k j pa pb sg jx vx) (fun sg ly wx => Own wr.heap.size wr [if ly 9 = true then It.blk sg.b1 (.cells (if ly 11 = true then #[.int .i64 pa.x, .int .i64 pa.y] else #[.int .i64 0, .int .i64 0]) 152) else noIt, if ly 10 = true then It.blk sg.b2 (.cells (if ly 12 = true then #[.int .i64 pb.x, .int .i64 pb.y] else #[.int .i64 0, .int .i64 0]) 152) else noIt] wx) ⟨0, 0⟩ ?_ ?_ ?_
        · exact (Own.start wr).blank.blank.drew
        · simp only [AllFrom, Nat.zero_add, Nat.reduceAdd];refine ⟨?_, ?_, ?_, ?_, ?_, ?_, ?_, ?_, ?_, ?_, ?_, ?_, ?_, trivial⟩
          · refine sP_ fun sg ly act wx hl hd hW hF => ?_;have et0 := hF.old 0 (by kernel_rfl);simp [Act.eval] at et0;exact ⟨hW, .slice (some ⟨b, off, none⟩) l.length c, by go_simp, rfl⟩
          · refine sP_ fun sg ly act wx hl hd hW hF => ?_;have et7 := hF.old 7 (by kernel_rfl);simp [Act.eval] at et7;exact ⟨hW, .int .i64 j, by go_simp, rfl⟩
          · refine sP_ fun sg ly act wx hl hd hW hF => ?_;simp [Region.binds] at hd;have et35 := hF.new 0 35 (by simp [hd]) rfl;simp [Hf9V, Act.eval] at et35;have et36 := hF.new 1 36 (by simp [hd]) rfl;simp [Hf9V, Act.eval] at et36;have hjl : (j : Int) < (l.length : Int) := by omega
            exact ⟨hW, .pointer (some ⟨b, off + j * 2, none⟩), by go_simp, rfl⟩
          · refine sP_ fun sg ly act wx hl hd hW hF => ?_;simp [Region.binds] at hd;have et37 := hF.new 2 37 (by simp [hd]) rfl;simp [Hf9V, Act.eval] at et37;have hO := hW;try dsimp only at hO
            have c0 := (hO.bel.cell (p := ⟨b, off + j * 2, none⟩) zb).trans HP.out.1.1;have c1 := (hO.bel.cell (p := ⟨b, off + j * 2 + 1, none⟩) zb).trans HP.out.1.2;have zz := Nat.lt_of_lt_of_le zb hO.bel.size;exact ⟨hW, .agg #[.int .i64 pa.x, .int .i64 pa.y], by go_simp, rfl⟩
          · refine sP_ fun sg ly act wx hl hd hW hF => ?_;have et0 := hF.old 0 (by kernel_rfl);simp [Act.eval] at et0;exact ⟨hW, .slice (some ⟨b, off, none⟩) l.length c, by go_simp, rfl⟩
          · refine sP_ fun sg ly act wx hl hd hW hF => ?_;have et7 := hF.old 7 (by kernel_rfl);simp [Act.eval] at et7;exact ⟨hW, .int .i64 j, by go_simp, rfl⟩
          · refine sP_ fun sg ly act wx hl hd hW hF => ?_;simp [Region.binds] at hd;have et40 := hF.new 5 40 (by simp [hd]) rfl;simp [Hf9V, Act.eval] at et40;have ew : IntKind.i64.wrap ((j : Int) + 1) = (k : Int) := by rw [IntWalk.i64_in _ (by omega)]; omega
            exact ⟨hW, .int .i64 k, by go_simp, rfl⟩
          · refine sP_ fun sg ly act wx hl hd hW hF => ?_;simp [Region.binds] at hd;have et39 := hF.new 4 39 (by simp [hd]) rfl;simp [Hf9V, Act.eval] at et39;have et41 := hF.new 6 41 (by simp [hd]) rfl;simp [Hf9V, Act.eval] at et41;have hkl : (k : Int) < (l.length : Int) := by omega
            exact ⟨hW, .pointer (some ⟨b, off + k * 2, none⟩), by go_simp, rfl⟩
          · refine sP_ fun sg ly act wx hl hd hW hF => ?_;simp [Region.binds] at hd;have et42 := hF.new 7 42 (by simp [hd]) rfl;simp [Hf9V, Act.eval] at et42;have hO := hW;try dsimp only at hO
            have c0 := (hO.bel.cell (p := ⟨b, off + k * 2, none⟩) zb).trans HP.out.2.1;have c1 := (hO.bel.cell (p := ⟨b, off + k * 2 + 1, none⟩) zb).trans HP.out.2.2;have zz := Nat.lt_of_lt_of_le zb hO.bel.size;exact ⟨hW, .agg #[.int .i64 pb.x, .int .i64 pb.y], by go_simp, rfl⟩
          · refine sR_ fun sg ly act wx hl hd hW hF => ?_;have n11 := hF.notYet 9 11 hl (by kernel_rfl);have hO := hW;try dsimp only at hO
            simp only [hl, n11, Bool.false_eq_true, if_false, if_true] at hO;refine ⟨_, wx.alloc (.cells #[.int .i64 0, .int .i64 0] 152), { sg with b1 := wx.heap.size }, by go_simp, ?_, rfl, ?_⟩
            · have hN := hO.newB 0 rfl (.cells #[.int .i64 0, .int .i64 0] 152);simpa [upd, n11] using hN
            · intro i u hi h;have i9 : i ≠ 9 := by rintro rfl; rw [hl] at hi; cases hi
              have i11 : i ≠ 11 := by rintro rfl; rw [n11] at hi; cases hi
              unfold Hf9V at h ⊢;split at h <;> first | exact h | exact absurd rfl i9 | exact absurd rfl i11
          · refine sR_ fun sg ly act wx hl hd hW hF => ?_;have n12 := hF.notYet 10 12 hl (by kernel_rfl);have hO := hW;try dsimp only at hO
            simp only [hl, n12, Bool.false_eq_true, if_false, if_true] at hO;refine ⟨_, wx.alloc (.cells #[.int .i64 0, .int .i64 0] 152), { sg with b2 := wx.heap.size }, by go_simp, ?_, rfl, ?_⟩
            · have hN := hO.newB 1 rfl (.cells #[.int .i64 0, .int .i64 0] 152);simpa [upd, n12] using hN
            · intro i u hi h;have i10 : i ≠ 10 := by rintro rfl; rw [hl] at hi; cases hi
              have i12 : i ≠ 12 := by rintro rfl; rw [n12] at hi; cases hi
              unfold Hf9V at h ⊢;split at h <;> first | exact h | exact absurd rfl i10 | exact absurd rfl i12
          · refine sS_ rfl fun sg ly act wx hl hd hW hF => ?_;simp [Region.binds] at hd;have et8 := hF.new 9 8 (by simp [hd]) rfl;simp [Hf9V, Act.eval] at et8;have et38 := hF.new 3 38 (by simp [hd]) rfl;simp [Hf9V, Act.eval] at et38;have y9 : ly 9 = true := by simp [hd]
            have hO := hW;try dsimp only at hO
            simp only [hl, y9, Bool.false_eq_true, if_false, if_true] at hO;have hh := hO.heap 0 rfl;have clq0 := (cOH hh 0).trans rfl;have flq0 := fOH hh 0;have clq1 := (cOH hh 1).trans rfl;have flq1 := fOH hh 1;have zz := hL_ hh;refine ⟨((wx.setCell ⟨sg.b1, 0, none⟩ (.int .i64 pa.x)).setCell ⟨sg.b1, 1, none⟩ (.int .i64 pa.y)), sg, .skip, by go_simp, .inl rfl, ?_, fun _ _ _ h => h⟩;have hN := hO.set 0 rfl (((Keep.refl _ _).setCell (.inl (by simp)) (.int .i64 pa.x)).setCell (.inl (by simp)) (.int .i64 pa.y)) (hS_ (hS_ (hh) 0 (.int .i64 pa.x)) 1 (.int .i64 pa.y));simpa [upd, y9, hl] using hN
          · refine sS_ rfl fun sg ly act wx hl hd hW hF => ?_;simp [Region.binds] at hd;have et9 := hF.new 10 9 (by simp [hd]) rfl;simp [Hf9V, Act.eval] at et9;have et43 := hF.new 8 43 (by simp [hd]) rfl;simp [Hf9V, Act.eval] at et43;have y10 : ly 10 = true := by simp [hd]
            have hO := hW;try dsimp only at hO
            simp only [hl, y10, Bool.false_eq_true, if_false, if_true] at hO;have hh := hO.heap 1 rfl;have clq0 := (cOH hh 0).trans rfl;have flq0 := fOH hh 0;have clq1 := (cOH hh 1).trans rfl;have flq1 := fOH hh 1;have zz := hL_ hh;refine ⟨((wx.setCell ⟨sg.b2, 0, none⟩ (.int .i64 pb.x)).setCell ⟨sg.b2, 1, none⟩ (.int .i64 pb.y)), sg, .skip, by go_simp, .inl rfl, ?_, fun _ _ _ h => h⟩;have hN := hO.set 1 rfl (((Keep.refl _ _).setCell (.inl (by simp)) (.int .i64 pb.x)).setCell (.inl (by simp)) (.int .i64 pb.y)) (hS_ (hS_ (hh) 0 (.int .i64 pb.x)) 1 (.int .i64 pb.y));simpa [upd, y10, hl] using hN
        intro sg af w8 hWW hF;have e7 := hF.new 9 8 (by decide) rfl;have e8 := hF.new 10 9 (by decide) rfl;obtain ⟨ff, hf, rfl⟩ := hF.lit;obtain ⟨b1, b2⟩ := sg;rw [← hf] at e7 e8;simp only [Hf9V] at e7 e8;have O8 : Own wr.heap.size wr [if (fun j => decide (j < List.length (_ : List Oper))) 9 = true then It.blk (HvS.mk b1 b2).b1 (.cells (if (fun j => decide (j < List.length (_ : List Oper))) 11 = true then #[.int .i64 pa.x, .int .i64 pa.y] else #[.int .i64 0, .int .i64 0]) 152) else noIt, if (fun j => decide (j < List.length (_ : List Oper))) 10 = true then It.blk (HvS.mk b1 b2).b2 (.cells (if (fun j => decide (j < List.length (_ : List Oper))) 12 = true then #[.int .i64 pb.x, .int .i64 pb.y] else #[.int .i64 0, .int .i64 0]) 152) else noIt] w8 := hWW;simp only [List.length_cons, List.length_nil, Nat.reduceAdd, Nat.reduceLT, decide_true, if_true] at O8;have h1 := O8.heap 0 rfl;have h2 := O8.heap 1 rfl;have y0 := (cOH h1 0).trans rfl;have y1 := (cOH h1 1).trans rfl;have x0 := (cOH h2 0).trans rfl;have x1 := (cOH h2 1).trans rfl;have z1 := hL_ h1;have z2 := hL_ h2;have H8 := Lib.hid (HB.out.1.trans (O8.bel.mono HB.out.1.size));clear hWW hF hf O8 h1 h2;simp only [List.filterMap, List.foldl, List.setIfInBounds_toArray, List.set_cons_succ, List.set_cons_zero, e7, e8];clear e7 e8;have b1 := mul_bd (A := 20000) (B := 1000) (a := pa.y) (b := pb.x - x) (by omega) (by omega);have b2 := mul_bd (A := 20000) (B := 1000) (a := pb.y) (b := x - pa.x) (by omega) (by omega);go_wp2_with fail
        go_quiet (fail);go_wp2_with fail
        go_ret2
        exact ⟨by rw [HC.out.2.1.2, if_neg (Int.not_le.2 hle), ← HE.out]; rfl, below_drewN H8.out _⟩
theorem seg_den : ∀ {l : List Pnt} {x : Int}, (∀ p ∈ l, 0 ≤ p.x ∧ p.x ≤ 400) → (seg l x).2 ≤ 400
  | [], _, _ => by simp [seg]
  | [a], _, _ => by simp [seg]
  | a :: b :: l, x, h => by
    unfold seg;split
    · exact seg_den fun p hp => h p (by simp at hp ⊢; exact .inr hp)
    · have h1 := h a (by simp);have h2 := h b (by simp);simp only; omega
theorem frac_rng {l : List Pnt} (h : Crv l) {x : Int} (hx : 0 ≤ x) : 0 < (frac l x).2 ∧ (frac l x).2 ≤ 400 ∧ 0 ≤ (frac l x).1 ∧ (frac l x).1 ≤ 20000 * (frac l x).2 := by
  have h1 := frac_pos (x := x) h.inc;have h2 : (frac l x).2 ≤ 400 := by
    unfold frac;split
    · decide
    · split
      · simp
      · exact seg_den fun p hp => by have := h.rng p hp; omega
  obtain ⟨v1, v2, v3, v4⟩ := h.at hx;have e := val_frac h.ne h.inc (h.hx hx);unfold feq at e;generalize val l x = V at *;generalize frac l x = G at *;obtain ⟨a, b⟩ := V;obtain ⟨c, d⟩ := G;simp only at *;refine ⟨h1, h2, ?_, ?_⟩
  · have : 0 * b ≤ c * b := by rw [Int.zero_mul, ← e]; exact Int.mul_nonneg v3 (by omega)
    exact Int.le_of_mul_le_mul_right this v1
  · have h3 := Int.mul_le_mul_of_nonneg_right v4 (show 0 ≤ d by omega);rw [e] at h3;have e2 : 20000 * b * d = 20000 * d * b := by ac_rfl
    rw [e2] at h3;exact Int.le_of_mul_le_mul_right h3 v1
theorem r3thrust_any (At : Option Addr) (ct : Nat) (Aw : Option Addr) (cw : Nat) (Ai : Option Addr) (ci : Nat) (s : Shp) (v : Int) (w : World) (R : ShR At Aw Ai s w) (L : ShL s) (hv : 0 ≤ v ∧ v ≤ 250) :
    Calls Tryz.prog 91 #[.agg (shpV At ct Aw cw Ai ci s), .int .i64 v] w fun e w' => e = .returned (.int .i64 (thrR s v)) ∧ Below w.heap.size w w' := by
  obtain ⟨X, hX⟩ : ∃ X, X = w.alloc (.cells (shpV At ct Aw cw Ai ci s) 64) := ⟨_, rfl⟩;obtain ⟨sb, hsb⟩ : ∃ b, b = w.heap.size := ⟨_, rfl⟩;have bX : Below w.heap.size w X := by rw [hX]; exact (Below.refl _ _).alloc (Nat.le_refl _) _
  have gx : X.heap[sb]? = some (.cells (shpV At ct Aw cw Ai ci s) 64 (0, 0)) := by rw [hX, hsb]; exact heap_alloc_new _ _
  have c4 := (cOH gx 4).trans rfl;have zs := hL_ gx;obtain ⟨n, hn⟩ : ∃ n, n = (frac s.thr v).1 := ⟨_, rfl⟩;obtain ⟨d, hd⟩ : ∃ n, n = (frac s.thr v).2 := ⟨_, rfl⟩;have kv : Calls Tryz.prog 103 #[.slice At s.thr.length ct, .int .i64 v] X fun e w' => e = .returned (.tuple #[.int .i64 n, .int .i64 d]) ∧ Below X.heap.size X w' := by
    rw [hn, hd]; exact r3frac_any At ct s.thr v X (R.below bX).rt L.ok.thr L.l1 (by omega)
  obtain ⟨d1, d2, n1, n2⟩ := frac_rng L.ok.thr hv.1;rw [← hd] at d1 d2 n2;rw [← hn] at n1 n2;have hq : thrR s v = n / d := by unfold thrR; rw [hn, hd]
  have hn6 : n ≤ 8000000 := by omega
  have hqb : 0 ≤ n / d ∧ n / d ≤ n := ⟨Int.ediv_nonneg n1 (by omega), Int.ediv_le_self d n1⟩;have hdz : ¬ (d = 0) := by omega
  have e0 : n.tdiv d = n / d := Int.tdiv_eq_ediv_of_nonneg n1;have hqt : 0 ≤ n.tdiv d ∧ n.tdiv d ≤ n := by rw [e0]; exact hqb
  rw [hq, ← e0];have KV := Lib.hid (And.intro kv bX);clear kv hn hd R L hq hqb e0 bX gx
  go_enter Tryz.func91, Tryz.ntmps91
  go_upto_region 1 with fail
  rw [← hX, ← hsb];clear hX hsb;go_wp2_with (go_at_call 103; refine KV.out.1.mono ?_; rintro e w' ⟨rfl, b1⟩; have HB := Lib.hid (KV.out.2.trans (b1.mono KV.out.2.size)); clear b1 c4 zs)
  go_ret;exact ⟨rfl, HB.out⟩
abbrev lvlV (n : Int) : Array Value := #[.int .i64 100, .int .i64 n, .int .i64 0, .int .i64 0]
theorem frac_lt {n d q : Int} (hd : 0 < d) (hq : q = n / d) : (q * d < n ↔ ceilR n d = q + 1) ∧ (¬ q * d < n ↔ ceilR n d = q) := by
  subst hq;unfold ceilR;by_cases h : n / d * d < n
  · rw [if_pos h]; exact ⟨⟨fun _ => rfl, fun _ => h⟩, ⟨fun g => absurd h g, fun g => by omega⟩⟩
  · rw [if_neg h]; exact ⟨⟨fun g => absurd g h, fun g => by omega⟩, ⟨fun _ => rfl, fun _ => h⟩⟩
theorem r3resist_any (At : Option Addr) (ct : Nat) (Aw : Option Addr) (cw : Nat) (Ai : Option Addr) (ci : Nat) (s : Shp) (n v : Int) (w : World) (R : ShR At Aw Ai s w) (L : ShL s) (hv : 0 ≤ v ∧ v ≤ 250) (hn : 0 ≤ n ∧ n ≤ 400) :
    Calls Tryz.prog 92 #[.agg (shpV At ct Aw cw Ai ci s), .agg (lvlV n), .int .i64 v, .bool true] w fun e w' => e = .returned (.int .i64 (ceilR (refN s n v) (refD s n v))) ∧ Below w.heap.size w w' := by
  obtain ⟨X, hX⟩ : ∃ X, X = (w.alloc (.cells (shpV At ct Aw cw Ai ci s) 64)).alloc (.cells (lvlV n) 150) := ⟨_, rfl⟩;obtain ⟨sb, hsb⟩ : ∃ b, b = w.heap.size := ⟨_, rfl⟩;obtain ⟨ib, hib⟩ : ∃ b, b = w.heap.size + 1 := ⟨_, rfl⟩;have O : Own w.heap.size w [.blk sb (.cells (shpV At ct Aw cw Ai ci s) 64), .blk ib (.cells (lvlV n) 150)] X := by
    have h := ((Own.start w).alloc (.cells (shpV At ct Aw cw Ai ci s) 64)).alloc (.cells (lvlV n) 150);rw [hX, hsb, hib]; simpa using h
  obtain ⟨wn, hwn⟩ : ∃ n, n = (frac s.wat v).1 := ⟨_, rfl⟩;obtain ⟨wd, hwd⟩ : ∃ n, n = (frac s.wat v).2 := ⟨_, rfl⟩;obtain ⟨ln, hln⟩ : ∃ k, k = (frac s.ice n).1 := ⟨_, rfl⟩;obtain ⟨ld, hld⟩ : ∃ k, k = (frac s.ice n).2 := ⟨_, rfl⟩;have kw : ∀ wx, Below w.heap.size w wx → Calls Tryz.prog 103 #[.slice Aw s.wat.length cw, .int .i64 v] wx fun e w' => e = .returned (.tuple #[.int .i64 wn, .int .i64 wd]) ∧ Below wx.heap.size wx w' := fun wx hb => by
    rw [hwn, hwd]; exact r3frac_any Aw cw s.wat v wx (R.below hb).rw_ L.ok.wat L.l2 (by omega)
  have ki : ∀ wx, Below w.heap.size w wx → Calls Tryz.prog 103 #[.slice Ai s.ice.length ci, .int .i64 n] wx fun e w' => e = .returned (.tuple #[.int .i64 ln, .int .i64 ld]) ∧ Below wx.heap.size wx w' := fun wx hb => by
    rw [hln, hld]; exact r3frac_any Ai ci s.ice n wx (R.below hb).ri L.ok.ice L.l3 (by omega)
  obtain ⟨w1, w2, w3, w4⟩ := frac_rng L.ok.wat hv.1;obtain ⟨i1, i2, i3, i4⟩ := frac_rng L.ok.ice hn.1;rw [← hwd] at w1 w2 w4;rw [← hwn] at w3 w4;rw [← hld] at i1 i2 i4;rw [← hln] at i3 i4;have eN : refN s n v = wn * (ld * 10000000) + 100 * ln * (1000 + s.slow * v) * s.brash * wd := by unfold refN; rw [hwn, hwd, hln, hld]
  have eD : refD s n v = wd * ld * 10000000 := by unfold refD; rw [hwd, hld]
  have sl := L.ok.slow;have br := L.ok.brash;obtain ⟨d, hd⟩ : ∃ d, d = wd * ld * 10000000 := ⟨_, rfl⟩;obtain ⟨m, hm⟩ : ∃ d, d = wn * (ld * 10000000) := ⟨_, rfl⟩;obtain ⟨t1, ht1⟩ : ∃ d, d = s.slow * v := ⟨_, rfl⟩;obtain ⟨t2, ht2⟩ : ∃ d, d = 100 * ln * (1000 + t1) := ⟨_, rfl⟩;obtain ⟨t3, ht3⟩ : ∃ d, d = t2 * s.brash := ⟨_, rfl⟩;obtain ⟨t4, ht4⟩ : ∃ d, d = t3 * wd := ⟨_, rfl⟩;rw [← ht1, ← ht2, ← ht3, ← ht4, ← hm] at eN;rw [← hd] at eD;have a0 := mul_bd (A := 400) (B := 400) (a := wd) (b := ld) (by omega) (by omega);have a0p : 0 < wd * ld := Int.mul_pos w1 i1;have a1 := mul_bd (A := 8000000) (B := 4000000000) (a := wn) (b := ld * 10000000) (by omega) (by omega);have a1p : 0 ≤ m := by rw [hm]; exact Int.mul_nonneg w3 (by omega)
  have a2 := mul_bd (A := 20) (B := 250) (a := s.slow) (b := v) (by omega) (by omega);have a2p : 0 ≤ t1 := by rw [ht1]; exact Int.mul_nonneg sl.1 hv.1
  rw [← ht1] at a2;have a3 := mul_bd (A := 800000000) (B := 6000) (a := 100 * ln) (b := 1000 + t1) (by omega) (by omega);have a3p : 0 ≤ t2 := by rw [ht2]; exact Int.mul_nonneg (by omega) (by omega)
  rw [← ht2] at a3;have a4 := mul_bd (A := 4800000000000) (B := 100) (a := t2) (b := s.brash) (by omega) (by omega);have a4p : 0 ≤ t3 := by rw [ht3]; exact Int.mul_nonneg a3p br.1
  rw [← ht3] at a4;have a5 := mul_bd (A := 480000000000000) (B := 400) (a := t3) (b := wd) (by omega) (by omega);have a5p : 0 ≤ t4 := by rw [ht4]; exact Int.mul_nonneg a4p (by omega)
  rw [← ht4] at a5;rw [← hm] at a1;have hdw : d.tdiv wd = ld * 10000000 := by
    rw [hd, Int.mul_assoc];exact Int.mul_tdiv_cancel_left _ (by omega)
  have hdb : 0 < d ∧ d ≤ 1600000000000 := by omega
  have hdz : ¬ d = 0 := by omega
  have hwz : ¬ wd = 0 := by omega
  obtain ⟨N, hN⟩ : ∃ N, N = m + t4 := ⟨_, rfl⟩;rw [← hN] at eN;have hNb : 0 ≤ N ∧ N ≤ 300000000000000000 := by omega
  have e0 : N.tdiv d = N / d := Int.tdiv_eq_ediv_of_nonneg hNb.1;obtain ⟨q, hq⟩ : ∃ q, q = N.tdiv d := ⟨_, rfl⟩;have hqb : 0 ≤ q ∧ q ≤ N := by rw [hq, e0]; exact ⟨Int.ediv_nonneg hNb.1 (by omega), Int.ediv_le_self d hNb.1⟩
  have hqd : 0 ≤ q * d ∧ q * d ≤ N := ⟨Int.mul_nonneg hqb.1 (by omega), by rw [hq, e0]; exact Int.ediv_mul_le N (by omega)⟩;have hce := frac_lt (n := N) hdb.1 (hq.trans e0);have hd100 : 0 ≤ d.tdiv 100 ∧ d.tdiv 100 ≤ d := by
    rw [Int.tdiv_eq_ediv_of_nonneg (by omega)];exact ⟨Int.ediv_nonneg (by omega) (by omega), Int.ediv_le_self _ (by omega)⟩
  have rg := L.ok.ridge;have ps := L.ok.press;rw [eN, eD];have HK := Lib.hid (And.intro kw (And.intro ki (And.intro O hce)));have hs0 := O.heap 0 rfl;have hi0 := O.heap 1 rfl;have c5 := (cOH hs0 5).trans rfl;have zs := hL_ hs0;have ED := Lib.hid (And.intro hd (And.intro hm (And.intro (And.intro ht1 (And.intro ht2 (And.intro ht3 ht4))) (And.intro hN (And.intro hq hdw)))));clear kw ki R L O hs0 hi0 eN eD e0 hce hwn hwd hln hld ht1 ht2 ht3 ht4 hm hN hq hd hdw a0p
  go_enter Tryz.func92, Tryz.ntmps92
  go_upto_region 1 with fail
  rw [← hX, ← hib, ← hsb];clear hX hsb hib;have TK := Lib.hid True.intro;go_upto_region 2 with (go_at_call 103; refine (HK.out.1 _ HK.out.2.2.1.bel).mono ?_; rintro e w' ⟨rfl, b1⟩; have O1 := Lib.hid (HK.out.2.2.1.below b1); clear b1)
  have c6 := (cOH (O1.out.heap 0 rfl) 6).trans rfl;have y1 := (cOH (O1.out.heap 1 rfl) 1).trans rfl;have zs1 := hL_ (O1.out.heap 0 rfl);have zi1 := hL_ (O1.out.heap 1 rfl);clear c5 zs;go_upto_region 3 with (go_at_call 103; refine (HK.out.2.1 _ O1.out.bel).mono ?_; rintro e w' ⟨rfl, b1⟩; have O2 := Lib.hid (O1.out.below b1); clear b1)
  have c7 := (cOH (O2.out.heap 0 rfl) 7).trans rfl;have c8 := (cOH (O2.out.heap 0 rfl) 8).trans rfl;have c9 := (cOH (O2.out.heap 0 rfl) 9).trans rfl;have c10 := (cOH (O2.out.heap 0 rfl) 10).trans rfl;have y0 := (cOH (O2.out.heap 1 rfl) 0).trans rfl;have y2 := (cOH (O2.out.heap 1 rfl) 2).trans rfl;have y3 := (cOH (O2.out.heap 1 rfl) 3).trans rfl;have zs2 := hL_ (O2.out.heap 0 rfl);have zi2 := hL_ (O2.out.heap 1 rfl);clear c6 y1 zs1 zi1;go_quiet (fail);go_upto_region 8 with fail
  simp only [← ED.out.1];clear a0;have hdw := ED.out.2.2.2.2.2;have rw1 : 0 ≤ wn * (ld * 10000000) ∧ wn * (ld * 10000000) ≤ 32000000000000000 := by rw [← ED.out.2.1]; omega
  go_upto_region 9 with fail
  simp only [hdw, ← ED.out.2.1];have RW := Lib.hid rw1;clear hdw a1 rw1;have rm : 0 ≤ m ∧ m ≤ 32000000000000000 := by rw [ED.out.2.1]; exact RW.out
  obtain ⟨ht1, ht2, ht3, ht4⟩ := ED.out.2.2.1;have r1 : 0 ≤ s.slow * v ∧ s.slow * v ≤ 5000 := by rw [← ht1]; omega
  have r2 : 0 ≤ 100 * ln * (1000 + s.slow * v) ∧ 100 * ln * (1000 + s.slow * v) ≤ 4800000000000 := by rw [← ht1, ← ht2]; omega
  have r3 : 0 ≤ 100 * ln * (1000 + s.slow * v) * s.brash ∧ 100 * ln * (1000 + s.slow * v) * s.brash ≤ 480000000000000 := by rw [← ht1, ← ht2, ← ht3]; omega
  have r4 : 0 ≤ 100 * ln * (1000 + s.slow * v) * s.brash * wd ∧ 100 * ln * (1000 + s.slow * v) * s.brash * wd ≤ 192000000000000000 := by rw [← ht1, ← ht2, ← ht3, ← ht4]; omega
  have HT := Lib.hid (And.intro ht1 (And.intro ht2 (And.intro ht3 ht4)));clear ht1 ht2 ht3 ht4 a2 a2p a3 a3p a4 a4p a5 a5p;go_upto_region 10 with fail
  simp only [← HT.out.1, ← HT.out.2.1, ← HT.out.2.2.1, ← HT.out.2.2.2, ← ED.out.2.2.2.1];clear r1 r2 r3 r4 rm;go_upto_region 12 with fail
  have hq := ED.out.2.2.2.2.1;have hq' : N.tdiv d = q := hq.symm;clear hq;by_cases hlt : q * d < N
  · go_wp2_with fail
    go_ret;exact ⟨by rw [HK.out.2.2.2.1.1 hlt]; rfl, below_drewN O2.out.bel _⟩
  · go_wp2_with fail
    go_ret;exact ⟨by rw [HK.out.2.2.2.2.1 hlt]; rfl, below_drewN O2.out.bel _⟩
def Hq1V (sb b off lt ct m : Nat) (sv iv : Array Value) (vv en t r : Int) (z : Bool) (s : Unit) : Nat → Value → Prop
  | 0, v => v = .int .i64 vv
  | 1, v => v = .pointer (some ⟨sb, 4, none⟩)
  | 2, v => v = .slice (some ⟨b, off, none⟩) lt ct
  | 3, v => v = .pointer (some ⟨sb, 4, none⟩)
  | 4, v => v = .slice (some ⟨b, off, none⟩) lt ct
  | 5, v => v = .int .i64 lt
  | 6, v => v = .int .i64 m
  | 7, v => v = .pointer (some ⟨b, off + m * 2, none⟩)
  | 8, v => v = .pointer (some ⟨b, off + m * 2, none⟩)
  | 9, v => v = .int .i64 en
  | 10, v => v = .bool true
  | 11, v => v = .bool true
  | 12, v => v = .agg sv
  | 13, v => v = .int .i64 vv
  | 14, v => v = .int .i64 t
  | 15, v => v = .agg sv
  | 16, v => v = .agg iv
  | 17, v => v = .int .i64 vv
  | 18, v => v = .bool true
  | 19, v => v = .int .i64 r
  | 20, v => v = .bool z
  | 21, v => v = .bool z
  | 22, v => v = .bool z
  | _, _ => True
theorem r3makes_any (At : Option Addr) (ct : Nat) (Aw : Option Addr) (cw : Nat) (Ai : Option Addr) (ci : Nat) (s : Shp) (n v : Int) (w : World) (R : ShR At Aw Ai s w) (L : ShL s) (hv : 0 ≤ v ∧ v ≤ 250) (hn : 0 ≤ n ∧ n ≤ 400) :
    Calls Tryz.prog 66 #[.agg (shpV At ct Aw cw Ai ci s), .agg (lvlV n), .int .i64 v, .bool true] w fun e w' => e = .returned (.bool (makR s n v)) ∧ Below w.heap.size w w' := by
  have hl2 := L.ok.thr.two;obtain ⟨b, off, rfl, hb, hc⟩ := R.rt.2 (by omega);obtain ⟨m, hm⟩ : ∃ m, s.thr.length = m + 1 := ⟨s.thr.length - 1, by omega⟩;have hm8 : m < s.thr.length ∧ s.thr.length ≤ m + 1 ∧ s.thr.length ≤ 8 := by have := L.l1; omega
  have g := hc _ _ (pnts_get (l := s.thr) (k := m) hm8.1).1;have he : endX s.thr = (s.thr[m]'hm8.1).x := by
    unfold endX;rw [List.getLastD_eq_getLast?, List.getLast?_eq_getElem?, show s.thr.length - 1 = m by omega, List.getElem?_eq_getElem hm8.1]; rfl
  rw [← he] at g;obtain ⟨X, hX⟩ : ∃ X, X = (w.alloc (.cells (shpV (some ⟨b, off, none⟩) ct Aw cw Ai ci s) 64)).alloc (.cells (lvlV n) 150) := ⟨_, rfl⟩;obtain ⟨sb, hsb⟩ : ∃ b, b = w.heap.size := ⟨_, rfl⟩;obtain ⟨ib, hib⟩ : ∃ b, b = w.heap.size + 1 := ⟨_, rfl⟩;have O : Own w.heap.size w [.blk sb (.cells (shpV (some ⟨b, off, none⟩) ct Aw cw Ai ci s) 64), .blk ib (.cells (lvlV n) 150)] X := by
    have h := ((Own.start w).alloc (.cells (shpV (some ⟨b, off, none⟩) ct Aw cw Ai ci s) 64)).alloc (.cells (lvlV n) 150);rw [hX, hsb, hib]; simpa using h
  obtain ⟨en, hen⟩ : ∃ y, y = endX s.thr := ⟨_, rfl⟩;obtain ⟨t, ht⟩ : ∃ y, y = thrR s v := ⟨_, rfl⟩;obtain ⟨r, hr⟩ : ∃ y, y = ceilR (refN s n v) (refD s n v) := ⟨_, rfl⟩;obtain ⟨z, hz⟩ : ∃ z, decide (r ≤ t) = z := ⟨_, rfl⟩;rw [← hen] at g;have kt : ∀ wx, Below w.heap.size w wx → Calls Tryz.prog 91 #[.agg (shpV (some ⟨b, off, none⟩) ct Aw cw Ai ci s), .int .i64 v] wx fun e w' => e = .returned (.int .i64 t) ∧ Below wx.heap.size wx w' := fun wx hb => by
    rw [ht]; exact r3thrust_any _ ct Aw cw Ai ci s v wx (R.below hb) L hv
  have kr : ∀ wx, Below w.heap.size w wx → Calls Tryz.prog 92 #[.agg (shpV (some ⟨b, off, none⟩) ct Aw cw Ai ci s), .agg (lvlV n), .int .i64 v, .bool true] wx fun e w' => e = .returned (.int .i64 r) ∧ Below wx.heap.size wx w' := fun wx hb => by
    rw [hr]; exact r3resist_any _ ct Aw cw Ai ci s n v wx (R.below hb) L hv hn
  have HE := Lib.hid (And.intro kt kr);have H0 := Lib.hid O;have HM := Lib.hid (And.intro hen (And.intro ht hr));have HP := Lib.hid g;have zb := hb;have hh0 := O.heap 0 rfl;have c4 := (cOH hh0 4).trans rfl;have zs := hL_ hh0;have cg := (O.bel.cell (p := ⟨b, off + m * 2, none⟩) hb).trans g;have zX := Nat.lt_of_lt_of_le hb O.bel.size;have hml : ((s.thr.length : Nat) : Int) - 1 = (m : Int) := by omega
  clear hen ht hr kt kr R L O g he hc hh0 hm hl2
  go_enter Tryz.func66, Tryz.ntmps66
  go_upto_region 1 with fail
  rw [← hX, ← hib, ← hsb];clear hX hsb hib;by_cases hle : v ≤ en
  · have HZ := Lib.hid (And.intro hle hz);clear hz c4 zs cg zX;refine wp_region_stepsG (σ := Unit) (by kernel_rfl) (by kernel_rfl) (fun sg jx vx _ => Hq1V sb b off s.thr.length ct m (shpV (some ⟨b, off, none⟩) ct Aw cw Ai ci s) (lvlV n) v en t r z sg jx vx) (fun sg ly wx => Own w.heap.size w [It.blk sb (.cells (shpV (some ⟨b, off, none⟩) ct Aw cw Ai ci s) 64), It.blk ib (.cells (lvlV n) 150)] wx) () ?_ ?_ ?_
    · exact H0.out.drew
    · simp only [AllFrom, Nat.zero_add, Nat.reduceAdd];refine ⟨?_, ?_, ?_, ?_, ?_, ?_, ?_, ?_, ?_, ?_, ?_, ?_, ?_, ?_, ?_, ?_, ?_, ?_, ?_, ?_, ?_, ?_, ?_, trivial⟩
      · refine gP_ rfl ?_;refine sP_ fun sg ly act wx hl hd hW hF => ?_;have et2 := hF.old 2 (by kernel_rfl);simp [Act.eval] at et2;exact ⟨hW, .int .i64 v, by go_simp, rfl⟩
      · refine gP_ rfl ?_;refine sP_ fun sg ly act wx hl hd hW hF => ?_;have et4 := hF.old 4 (by kernel_rfl);simp [Act.eval] at et4;exact ⟨hW, .pointer (some ⟨sb, 4, none⟩), by go_simp, rfl⟩
      · refine gP_ rfl ?_;refine sP_ fun sg ly act wx hl hd hW hF => ?_;simp [Region.binds] at hd;have et10 := hF.new 1 10 (by simp [hd]) rfl;simp [Hq1V, Act.eval] at et10;have hO := hW;try dsimp only at hO
        have hh := hO.heap 0 rfl;have clq0 := (cOH hh 0).trans rfl;have clq1 := (cOH hh 1).trans rfl;have clq2 := (cOH hh 2).trans rfl;have clq3 := (cOH hh 3).trans rfl;have clq4 := (cOH hh 4).trans rfl;have clq5 := (cOH hh 5).trans rfl;have clq6 := (cOH hh 6).trans rfl;have clq7 := (cOH hh 7).trans rfl;have clq8 := (cOH hh 8).trans rfl;have clq9 := (cOH hh 9).trans rfl;have clq10 := (cOH hh 10).trans rfl;have zz := hL_ hh;exact ⟨hW, .slice (some ⟨b, off, none⟩) s.thr.length ct, by go_simp, rfl⟩
      · refine gP_ rfl ?_;refine sP_ fun sg ly act wx hl hd hW hF => ?_;have et4 := hF.old 4 (by kernel_rfl);simp [Act.eval] at et4;exact ⟨hW, .pointer (some ⟨sb, 4, none⟩), by go_simp, rfl⟩
      · refine gP_ rfl ?_;refine sP_ fun sg ly act wx hl hd hW hF => ?_;simp [Region.binds] at hd;have et12 := hF.new 3 12 (by simp [hd]) rfl;simp [Hq1V, Act.eval] at et12;have hO := hW;try dsimp only at hO
        have hh := hO.heap 0 rfl;have clq0 := (cOH hh 0).trans rfl;have clq1 := (cOH hh 1).trans rfl;have clq2 := (cOH hh 2).trans rfl;have clq3 := (cOH hh 3).trans rfl;have clq4 := (cOH hh 4).trans rfl;have clq5 := (cOH hh 5).trans rfl;have clq6 := (cOH hh 6).trans rfl;have clq7 := (cOH hh 7).trans rfl;have clq8 := (cOH hh 8).trans rfl;have clq9 := (cOH hh 9).trans rfl;have clq10 := (cOH hh 10).trans rfl;have zz := hL_ hh;exact ⟨hW, .slice (some ⟨b, off, none⟩) s.thr.length ct, by go_simp, rfl⟩
      · refine gP_ rfl ?_;refine sP_ fun sg ly act wx hl hd hW hF => ?_;simp [Region.binds] at hd;have et13 := hF.new 4 13 (by simp [hd]) rfl;simp [Hq1V, Act.eval] at et13;exact ⟨hW, .int .i64 s.thr.length, by go_simp, rfl⟩
      · refine gP_ rfl ?_;refine sP_ fun sg ly act wx hl hd hW hF => ?_;simp [Region.binds] at hd;have et14 := hF.new 5 14 (by simp [hd]) rfl;simp [Hq1V, Act.eval] at et14;have ew2 : IntKind.i64.wrap (m : Int) = (m : Int) := IntWalk.i64_in _ (by omega);have ew : IntKind.i64.wrap ((s.thr.length : Int) - 1) = (m : Int) := by rw [IntWalk.i64_in _ (by omega)]; omega
        exact ⟨hW, .int .i64 m, by go_simp, rfl⟩
      · refine gP_ rfl ?_;refine sP_ fun sg ly act wx hl hd hW hF => ?_;simp [Region.binds] at hd;have et11 := hF.new 2 11 (by simp [hd]) rfl;simp [Hq1V, Act.eval] at et11;have et15 := hF.new 6 15 (by simp [hd]) rfl;simp [Hq1V, Act.eval] at et15;have hml : (m : Int) < (s.thr.length : Int) := by omega
        exact ⟨hW, .pointer (some ⟨b, off + m * 2, none⟩), by go_simp, rfl⟩
      · refine gP_ rfl ?_;refine sP_ fun sg ly act wx hl hd hW hF => ?_;simp [Region.binds] at hd;have et16 := hF.new 7 16 (by simp [hd]) rfl;simp [Hq1V, Act.eval] at et16;exact ⟨hW, .pointer (some ⟨b, off + m * 2, none⟩), by go_simp, rfl⟩
      · refine gP_ rfl ?_;refine sP_ fun sg ly act wx hl hd hW hF => ?_;simp [Region.binds] at hd;have et17 := hF.new 8 17 (by simp [hd]) rfl;simp [Hq1V, Act.eval] at et17;have hO := hW;try dsimp only at hO
        have c0 := (hO.bel.cell (p := ⟨b, off + m * 2, none⟩) zb).trans HP.out;have zz := Nat.lt_of_lt_of_le zb hO.bel.size;exact ⟨hW, .int .i64 en, by go_simp, rfl⟩
      · refine gP_ rfl ?_;refine sP_ fun sg ly act wx hl hd hW hF => ?_;simp [Region.binds] at hd;have et9 := hF.new 0 9 (by simp [hd]) rfl;simp [Hq1V, Act.eval] at et9;have et18 := hF.new 9 18 (by simp [hd]) rfl;simp [Hq1V, Act.eval] at et18;have hle : v ≤ en := HZ.out.1;exact ⟨hW, .bool true, by go_simp, rfl⟩
      · refine gP_ rfl ?_;refine sP_ fun sg ly act wx hl hd hW hF => ?_;simp [Region.binds] at hd;have et19 := hF.new 10 19 (by simp [hd]) rfl;simp [Hq1V, Act.eval] at et19;exact ⟨hW, .bool true, by go_simp, rfl⟩
      · refine stepG_yes ?_ ?_;rotate_left
        · intro sg ly a wr hd hF;simp [Region.binds] at hd;exact wQ_ hF (g := 11) (d := 20) (z := true) (b := true) rfl rfl (by simp [hd]) (fun v hv => hv)
        refine sP_ fun sg ly act wx hl hd hW hF => ?_;have et4 := hF.old 4 (by kernel_rfl);simp [Act.eval] at et4;have hO := hW;try dsimp only at hO
        have hh := hO.heap 0 rfl;have clq0 := (cOH hh 0).trans rfl;have clq1 := (cOH hh 1).trans rfl;have clq2 := (cOH hh 2).trans rfl;have clq3 := (cOH hh 3).trans rfl;have clq4 := (cOH hh 4).trans rfl;have clq5 := (cOH hh 5).trans rfl;have clq6 := (cOH hh 6).trans rfl;have clq7 := (cOH hh 7).trans rfl;have clq8 := (cOH hh 8).trans rfl;have clq9 := (cOH hh 9).trans rfl;have clq10 := (cOH hh 10).trans rfl;have zz := hL_ hh;exact ⟨hW, .agg (shpV (some ⟨b, off, none⟩) ct Aw cw Ai ci s), by go_simp, rfl⟩
      · refine stepG_yes ?_ ?_;rotate_left
        · intro sg ly a wr hd hF;simp [Region.binds] at hd;exact wQ_ hF (g := 11) (d := 20) (z := true) (b := true) rfl rfl (by simp [hd]) (fun v hv => hv)
        refine sP_ fun sg ly act wx hl hd hW hF => ?_;have et2 := hF.old 2 (by kernel_rfl);simp [Act.eval] at et2;exact ⟨hW, .int .i64 v, by go_simp, rfl⟩
      · refine stepG_yes ?_ ?_;rotate_left
        · intro sg ly a wr hd hF;simp [Region.binds] at hd;exact wQ_ hF (g := 11) (d := 20) (z := true) (b := true) rfl rfl (by simp [hd]) (fun v hv => hv)
        refine sC_ fun sg ly act wx hl hd hW hF => ?_;simp [Region.binds] at hd;have et21 := hF.new 12 21 (by simp [hd]) rfl;simp [Hq1V, Act.eval] at et21;have et22 := hF.new 13 22 (by simp [hd]) rfl;simp [Hq1V, Act.eval] at et22;have hO := hW;try dsimp only at hO
        refine ⟨91, #[.agg (shpV (some ⟨b, off, none⟩) ct Aw cw Ai ci s), .int .i64 v], by go_simp, ?_⟩;refine (HE.out.1 wx hO.bel).mono ?_;rintro e w2 ⟨rfl, hb⟩;exact ⟨_, sg, rfl, Own.below hW hb, rfl, fun _ _ _ h => h⟩
      · refine stepG_yes ?_ ?_;rotate_left
        · intro sg ly a wr hd hF;simp [Region.binds] at hd;exact wQ_ hF (g := 11) (d := 20) (z := true) (b := true) rfl rfl (by simp [hd]) (fun v hv => hv)
        refine sP_ fun sg ly act wx hl hd hW hF => ?_;have et4 := hF.old 4 (by kernel_rfl);simp [Act.eval] at et4;have hO := hW;try dsimp only at hO
        have hh := hO.heap 0 rfl;have clq0 := (cOH hh 0).trans rfl;have clq1 := (cOH hh 1).trans rfl;have clq2 := (cOH hh 2).trans rfl;have clq3 := (cOH hh 3).trans rfl;have clq4 := (cOH hh 4).trans rfl;have clq5 := (cOH hh 5).trans rfl;have clq6 := (cOH hh 6).trans rfl;have clq7 := (cOH hh 7).trans rfl;have clq8 := (cOH hh 8).trans rfl;have clq9 := (cOH hh 9).trans rfl;have clq10 := (cOH hh 10).trans rfl;have zz := hL_ hh;exact ⟨hW, .agg (shpV (some ⟨b, off, none⟩) ct Aw cw Ai ci s), by go_simp, rfl⟩
      · refine stepG_yes ?_ ?_;rotate_left
        · intro sg ly a wr hd hF;simp [Region.binds] at hd;exact wQ_ hF (g := 11) (d := 20) (z := true) (b := true) rfl rfl (by simp [hd]) (fun v hv => hv)
        refine sP_ fun sg ly act wx hl hd hW hF => ?_;have et5 := hF.old 5 (by kernel_rfl);simp [Act.eval] at et5;have hO := hW;try dsimp only at hO
        have hh := hO.heap 1 rfl;have clq0 := (cOH hh 0).trans rfl;have clq1 := (cOH hh 1).trans rfl;have clq2 := (cOH hh 2).trans rfl;have clq3 := (cOH hh 3).trans rfl;have zz := hL_ hh;exact ⟨hW, .agg (lvlV n), by go_simp, rfl⟩
      · refine stepG_yes ?_ ?_;rotate_left
        · intro sg ly a wr hd hF;simp [Region.binds] at hd;exact wQ_ hF (g := 11) (d := 20) (z := true) (b := true) rfl rfl (by simp [hd]) (fun v hv => hv)
        refine sP_ fun sg ly act wx hl hd hW hF => ?_;have et2 := hF.old 2 (by kernel_rfl);simp [Act.eval] at et2;exact ⟨hW, .int .i64 v, by go_simp, rfl⟩
      · refine stepG_yes ?_ ?_;rotate_left
        · intro sg ly a wr hd hF;simp [Region.binds] at hd;exact wQ_ hF (g := 11) (d := 20) (z := true) (b := true) rfl rfl (by simp [hd]) (fun v hv => hv)
        refine sP_ fun sg ly act wx hl hd hW hF => ?_;have et3 := hF.old 3 (by kernel_rfl);simp [Act.eval] at et3;exact ⟨hW, .bool true, by go_simp, rfl⟩
      · refine stepG_yes ?_ ?_;rotate_left
        · intro sg ly a wr hd hF;simp [Region.binds] at hd;exact wQ_ hF (g := 11) (d := 20) (z := true) (b := true) rfl rfl (by simp [hd]) (fun v hv => hv)
        refine sC_ fun sg ly act wx hl hd hW hF => ?_;simp [Region.binds] at hd;have et24 := hF.new 15 24 (by simp [hd]) rfl;simp [Hq1V, Act.eval] at et24;have et25 := hF.new 16 25 (by simp [hd]) rfl;simp [Hq1V, Act.eval] at et25;have et26 := hF.new 17 26 (by simp [hd]) rfl;simp [Hq1V, Act.eval] at et26;have et27 := hF.new 18 27 (by simp [hd]) rfl;simp [Hq1V, Act.eval] at et27;have hO := hW;try dsimp only at hO
        refine ⟨92, #[.agg (shpV (some ⟨b, off, none⟩) ct Aw cw Ai ci s), .agg (lvlV n), .int .i64 v, .bool true], by go_simp, ?_⟩;refine (HE.out.2 wx hO.bel).mono ?_;rintro e w2 ⟨rfl, hb⟩;exact ⟨_, sg, rfl, Own.below hW hb, rfl, fun _ _ _ h => h⟩
      · refine stepG_yes ?_ ?_;rotate_left
        · intro sg ly a wr hd hF;simp [Region.binds] at hd;exact wQ_ hF (g := 11) (d := 20) (z := true) (b := true) rfl rfl (by simp [hd]) (fun v hv => hv)
        refine sP_ fun sg ly act wx hl hd hW hF => ?_;simp [Region.binds] at hd;have et23 := hF.new 14 23 (by simp [hd]) rfl;simp [Hq1V, Act.eval] at et23;have et28 := hF.new 19 28 (by simp [hd]) rfl;simp [Hq1V, Act.eval] at et28;have hz := HZ.out.2;exact ⟨hW, .bool z, by go_simp, rfl⟩
      · refine gP_ rfl ?_;refine sP_ fun sg ly act wx hl hd hW hF => ?_;simp [Region.binds] at hd;have et20 := hF.new 11 20 (by simp [hd]) rfl;simp [Hq1V, Act.eval] at et20;have et29 := hF.new 20 29 (by simp [hd]) rfl;simp [Hq1V, Act.eval] at et29;exact ⟨hW, .bool z, by go_simp, rfl⟩
      · refine gP_ rfl ?_;refine sP_ fun sg ly act wx hl hd hW hF => ?_;simp [Region.binds] at hd;have et30 := hF.new 21 30 (by simp [hd]) rfl;simp [Hq1V, Act.eval] at et30;exact ⟨hW, .bool z, by go_simp, rfl⟩
    intro sg af w4 hWW hF;have e4 := hF.new 22 8 (by decide) rfl;obtain ⟨ff, hf, rfl⟩ := hF.lit;rw [← hf] at e4;simp only [Hq1V] at e4;have O4 : Own w.heap.size w [It.blk sb (.cells (shpV (some ⟨b, off, none⟩) ct Aw cw Ai ci s) 64), It.blk ib (.cells (lvlV n) 150)] w4 := hWW;have H4 := Lib.hid O4.bel;clear hWW hF hf O4;simp only [List.filterMap, List.foldl, List.setIfInBounds_toArray, List.set_cons_succ, List.set_cons_zero, e4];clear e4;go_wp2_with fail
    go_ret;exact ⟨by unfold makR; rw [← HM.out.1, ← HM.out.2.1, ← HM.out.2.2, decide_eq_true HZ.out.1, HZ.out.2]; rfl, H4.out⟩
  · have d1 : decide (v ≤ en) = false := decide_eq_false hle;go_quiet (fail);go_wp2_with fail
    go_ret;exact ⟨by unfold makR; rw [← HM.out.1, d1]; rfl, below_drewN H0.out.bel _⟩
end Go.Proofs.YtalcinepeofmcaaGreat
