/- slices.Max of ints; restrict.Need -/
import Derived.Test.YtbgnkljjgfcngaaGreatRSp20
import Derived.Test.YtbgnkljjgfcngaaGreatRSp12
import Derived.Deep.DeepCutAuto
import Derived.Deep.RegionHeld3
import Derived.IntWalk
set_option linter.unusedVariables false
set_option linter.unusedSimpArgs false
namespace Go.Proofs.YtbgnkljjgfcngaaGreat
open Go Go.RowKit Sp
set_option linter.unusedSimpArgs false
set_option linter.unusedVariables false

/-- the greatest of the first k + 1 -/
def mxTo (l : List Int) : Nat → Int
  | 0 => l.getD 0 0
  | k + 1 => if mxTo l k < l.getD (k + 1) 0 then l.getD (k + 1) 0 else mxTo l k
def maxL (l : List Int) : Int := mxTo l (l.length - 1)
theorem mxTo_ge (l : List Int) : ∀ {k j : Nat}, j ≤ k → l.getD j 0 ≤ mxTo l k
  | 0, j, h => by obtain rfl : j = 0 := by omega
                  exact Int.le_refl _
  | k + 1, j, h => by
    unfold mxTo
    by_cases e : j = k + 1
    · subst e; split <;> omega
    · have := mxTo_ge l (k := k) (j := j) (by omega)
      split <;> omega
theorem mxTo_is (l : List Int) : ∀ k : Nat, ∃ j, j ≤ k ∧ mxTo l k = l.getD j 0
  | 0 => ⟨0, Nat.le_refl _, rfl⟩
  | k + 1 => by
    unfold mxTo
    split
    · exact ⟨k + 1, Nat.le_refl _, rfl⟩
    · obtain ⟨j, h1, h2⟩ := mxTo_is l k
      exact ⟨j, by omega, h2⟩

set_option maxRecDepth 100000 in
set_option maxHeartbeats 1000000 in
theorem maxI_any (A : Option Addr) (c : Nat) (l : List Int) (w : World) (hr : Rd w 1 A l.length (ints l)) (h0 : 0 < l.length) (hm : l.length ≤ 9223372036854775807) :
    Calls Tryz.prog 89 #[.slice A l.length c] w fun e w' => e = .returned (.int .i64 (maxL l)) ∧ w = w' := by
  obtain ⟨b, off, rfl, hb, hc⟩ := hr.2 h0
  have c0 := hc 0 _ (ints_get h0)
  rw [Nat.add_zero] at c0
  obtain ⟨y0, hy0⟩ : ∃ y, y = l.getD 0 0 := ⟨_, rfl⟩
  rw [← hy0] at c0
  have HY := Lib.hid hy0
  clear hy0
  have HC := Lib.hid hc
  clear hc hr
  go_enter Tryz.func89, Tryz.ntmps89
  go_wp2_with fail
  go_loop [3, 4] (fun m i => ∃ k : Nat, k < l.length ∧ m = .int .i64 (mxTo l k) ∧ i = .int .i64 (k + 1)) (fun _ i => l.length - (intOf i).toNat)
  case atStart => exact ⟨0, h0, by rw [HY.out]; rfl, rfl⟩
  case round =>
    obtain ⟨k, hk, rfl, rfl⟩ := hrel
    obtain ⟨m, hm2⟩ : ∃ m, m = mxTo l k := ⟨_, rfl⟩
    rw [← hm2]
    by_cases hlt : k + 1 < l.length
    · have ck := HC.out (k + 1) _ (ints_get hlt)
      obtain ⟨x, hx⟩ : ∃ x, x = l.getD (k + 1) 0 := ⟨_, rfl⟩
      rw [← hx] at ck
      have HX := Lib.hid (And.intro hm2 hx)
      clear hm2 hx
      go_wp2_with fail
      go_round
      case measure => simp [intOf]; omega
      case rel => exact ⟨k + 1, hlt, by rw [mxTo, ← HX.out.1, ← HX.out.2], by go_num⟩
    · have e : m = maxL l := by rw [hm2, maxL, show l.length - 1 = k from by omega]
      have HE := Lib.hid e
      clear hm2 e
      go_wp2_with fail
      go_ret
      exact ⟨by rw [← HE.out]; rfl, rfl⟩

/-- what Need answers -/
def cutI (p : Pol) (days : List Int) (a z : Nat) : List Int := ((forceS p days).drop a).take (z + 1 - a)
theorem cutI_length (p : Pol) (days : List Int) {a z : Nat} (ha : a ≤ z) (hz : z < days.length) : (cutI p days a z).length = z + 1 - a := by
  rw [cutI, List.length_take, List.length_drop, forceS_length]; omega
def needE (p : Pol) (days : List Int) (a z : Int) : Int := if startS p days ≠ 0 then startS p days else if within a 0 ((days.length : Int) - 1) && within z a ((days.length : Int) - 1) then 0 else 6
def needV (p : Pol) (days : List Int) (a z : Int) : Ves := if needE p days a z = 0 then ⟨(p.steps.getD (maxL (cutI p days a.toNat z.toNat)).toNat default).cls, (p.steps.getD (maxL (cutI p days a.toNat z.toNat)).toNat default).ton, false⟩ else ⟨0, 0, false⟩
theorem need_start {p : Pol} {days : List Int} {a z : Int} (h : startS p days ≠ 0) : needE p days a z = startS p days ∧ needV p days a z = ⟨0, 0, false⟩ := by
  have e : needE p days a z = startS p days := by unfold needE; rw [if_pos h]
  exact ⟨e, by unfold needV; rw [e, if_neg h]⟩
theorem need_out {p : Pol} {days : List Int} {a z : Int} (h : startS p days = 0) (hi : (within a 0 ((days.length : Int) - 1) && within z a ((days.length : Int) - 1)) = false) : needE p days a z = 6 ∧ needV p days a z = ⟨0, 0, false⟩ := by
  have e : needE p days a z = 6 := by unfold needE; rw [if_neg (fun f => f h), hi]; rfl
  exact ⟨e, by unfold needV; rw [e]; rfl⟩
theorem need_in {p : Pol} {days : List Int} {a z : Int} (h : startS p days = 0) (hi : (within a 0 ((days.length : Int) - 1) && within z a ((days.length : Int) - 1)) = true) : needE p days a z = 0 ∧ needV p days a z = ⟨(p.steps.getD (maxL (cutI p days a.toNat z.toNat)).toNat default).cls, (p.steps.getD (maxL (cutI p days a.toNat z.toNat)).toNat default).ton, false⟩ := by
  have e : needE p days a z = 0 := by unfold needE; rw [if_neg (fun f => f h), hi]; rfl
  exact ⟨e, by unfold needV; rw [e]; rfl⟩
def vesV (v : Ves) : Value := .agg #[.int .i64 v.cls, .int .i64 v.ton, .bool v.esc]
def NeedPost (w : World) (p : Pol) (days : List Int) (a z : Int) (e : Ending) (w' : World) : Prop :=
  e = .returned (.tuple #[.agg #[.int .i64 (needV p days a z).cls, .int .i64 (needV p days a z).ton, .bool (needV p days a z).esc], .int .i64 (needE p days a z)]) ∧ Below w.heap.size w w'

theorem st3_heap {W : World} {vb : Nat} {u0 u1 u2 : Value} {t : TypeId} (h : W.heap[vb]? = some (.cells #[u0, u1, u2] t (0, 0))) (x y z : Value) : (((W.setCell ⟨vb, 0, none⟩ x).setCell ⟨vb, 1, none⟩ y).setCell ⟨vb, 2, none⟩ z).heap[vb]? = some (.cells #[x, y, z] t (0, 0)) :=
  heap_set (heap_set (heap_set h 0 x) 1 y) 2 z
theorem st3_below {w W : World} {vb : Nat} (h : Below w.heap.size w W) (hv : w.heap.size ≤ vb) (x y z : Value) : Below w.heap.size w (((W.setCell ⟨vb, 0, none⟩ x).setCell ⟨vb, 1, none⟩ y).setCell ⟨vb, 2, none⟩ z) :=
  ((h.setCell hv x).setCell hv y).setCell hv z
theorem need_fin {w W1 W : World} {vb : Nat} (hw : Below w.heap.size w W1) (hwv : w.heap.size ≤ vb) (hv : W1.heap[vb]? = some (.cells #[.int .i64 0, .int .i64 0, .bool false] 29 (0, 0))) (hB : Below W1.heap.size W1 W) (x y z : Value) :
    (((W.setCell ⟨vb, 0, none⟩ x).setCell ⟨vb, 1, none⟩ y).setCell ⟨vb, 2, none⟩ z).heap[vb]? = some (.cells #[x, y, z] 29 (0, 0)) ∧ Below w.heap.size w (((W.setCell ⟨vb, 0, none⟩ x).setCell ⟨vb, 1, none⟩ y).setCell ⟨vb, 2, none⟩ z) :=
  ⟨st3_heap ((hB.block _ (heap_lt hv)).trans hv) x y z, st3_below (hw.trans (hB.mono hw.size)) hwv x y z⟩
theorem need_results {W : World} {vb : Nat} {x y e : Int} {b : Bool} (h : W.heap[vb]? = some (.cells #[.int .i64 x, .int .i64 y, .bool b] 29 (0, 0))) (tmps : Array Value) (h8 : tmps.getD 8 undef = .pointer (some ⟨vb, 0, none⟩)) (h9 : tmps.getD 9 undef = .int .i64 e) :
    (results Tryz.f46 tmps).run Tryz.prog W = .ok (.tuple #[.agg #[.int .i64 x, .int .i64 y, .bool b], .int .i64 e]) W := by
  have hr : Tryz.f46.results = #[.cell 8 29, .tmp 9] := rfl
  have g8 : tmps[8]?.getD undef = .pointer (some ⟨vb, 0, none⟩) := by simpa using h8
  have g9 : tmps[9]?.getD undef = .int .i64 e := by simpa using h9
  have c0 : W.cell? ⟨vb, 0, none⟩ = some (.int .i64 x) := (cell_of_heap h 0).trans rfl
  have c1 : W.cell? ⟨vb, 1, none⟩ = some (.int .i64 y) := (cell_of_heap h 1).trans rfl
  have c2 : W.cell? ⟨vb, 2, none⟩ = some (.bool b) := (cell_of_heap h 2).trans rfl
  simp [results, hr, g8, g9, asAddr, go_sem, c0, c1, c2]

set_option maxRecDepth 100000 in
set_option maxHeartbeats 2000000 in
theorem Need_any (As : Option Addr) (cs : Nat) (p : Pol) (A : Option Addr) (c : Nat) (days : List Int) (a z : Int) (w : World) (hp : PolV w As cs p) (hr : Rd w 1 A days.length (ints days)) (hm : days.length ≤ 9223372036854775807) :
    Calls Tryz.prog 46 #[.agg #[.slice As p.steps.length cs, .int .i64 p.hold, .int .i64 p.calm, .int .i64 p.notice, .int .i64 p.grace], .slice A days.length c, .int .i64 a, .int .i64 z] w (NeedPost w p days a z) := by
  obtain ⟨er, her⟩ : ∃ er, er = startS p days := ⟨_, rfl⟩
  obtain ⟨W0, hW0⟩ : ∃ W0, W0 = (w.alloc (.cells #[.slice As p.steps.length cs, .int .i64 p.hold, .int .i64 p.calm, .int .i64 p.notice, .int .i64 p.grace] 25)).alloc (.cells #[.int .i64 0, .int .i64 0, .bool false] 29) := ⟨_, rfl⟩
  obtain ⟨vb, hvb⟩ : ∃ vb, vb = w.heap.size + 1 := ⟨_, rfl⟩
  have b0 : Below w.heap.size w W0 := by rw [hW0]; exact ((Below.refl _ _).alloc (Nat.le_refl _) _).alloc (by simp) _
  have hv0 : W0.heap[vb]? = some (.cells #[.int .i64 0, .int .i64 0, .bool false] 29 (0, 0)) := by
    rw [hW0, hvb]
    have := heap_alloc_new (w.alloc (.cells #[.slice As p.steps.length cs, .int .i64 p.hold, .int .i64 p.calm, .int .i64 p.notice, .int .i64 p.grace] 25)) (.cells #[.int .i64 0, .int .i64 0, .bool false] 29)
    rwa [World.size_alloc] at this
  have hb0 : W0.heap[w.heap.size]? = some (.cells #[.slice As p.steps.length cs, .int .i64 p.hold, .int .i64 p.calm, .int .i64 p.notice, .int .i64 p.grace] 25 (0, 0)) := by rw [hW0]; exact heap_alloc' (heap_alloc_new _ _) _
  have t0 := (cell_of_heap hb0 0).trans rfl
  have t1 := (cell_of_heap hb0 1).trans rfl
  have t2 := (cell_of_heap hb0 2).trans rfl
  have t3 := (cell_of_heap hb0 3).trans rfl
  have t4 := (cell_of_heap hb0 4).trans rfl
  have hst : Calls Tryz.prog 65 #[.agg #[.slice As p.steps.length cs, .int .i64 p.hold, .int .i64 p.calm, .int .i64 p.notice, .int .i64 p.grace], .slice A days.length c] W0
      fun e w1 => ∃ pp, e = .returned (.tuple #[.agg #[.pointer pp], .int .i64 er]) ∧ (er = 0 → ∃ pb, pp = some ⟨pb, 0, none⟩ ∧ PolAt w1 pb p) ∧ Below w.heap.size w w1 ∧ w1.heap[vb]? = some (.cells #[.int .i64 0, .int .i64 0, .bool false] 29 (0, 0)) := by
    refine (start8_any As cs p A c days W0 ⟨hp.1, hp.2.1, hp.2.2.below b0⟩ (hr.below b0) hm).mono ?_
    rintro e w1 ⟨pp, rfl, hB, h0, _⟩
    exact ⟨pp, by rw [her], fun h => h0 (her.symm.trans h), b0.trans (hB.mono b0.size), (hB.block _ (heap_lt hv0)).trans hv0⟩
  have hwv : w.heap.size ≤ vb := by omega
  have HP := Lib.hid (And.intro her (And.intro hr (And.intro hst (And.intro hW0 hvb))))
  clear her hst b0 hr hv0 hb0
  go_enter Tryz.func46, Tryz.ntmps46
  go_upto_region 1 with fail
  rw [← hW0, ← hvb]
  clear hW0 hvb
  go_wp2_with fail
  refine HP.out.2.2.1.mono ?_
  rintro e w1 ⟨pp, rfl, hpol, b1, hv1⟩
  clear t0 t1 t2 t3 t4
  obtain ⟨W1, hW1⟩ : ∃ W1, W1 = w1.alloc (.cells #[.pointer pp] 132) := ⟨_, rfl⟩
  obtain ⟨rb, hrb⟩ : ∃ rb, rb = w1.heap.size := ⟨_, rfl⟩
  have bw : Below w1.heap.size w1 W1 := by rw [hW1]; exact (Below.refl _ _).alloc (Nat.le_refl _) _
  have fr : W1.cell? ⟨rb, 0, none⟩ = some (.pointer pp) := by rw [hW1, hrb]; exact cell_new_one _ _ _
  have hv2 : W1.heap[vb]? = some (.cells #[.int .i64 0, .int .i64 0, .bool false] 29 (0, 0)) := (bw.block _ (heap_lt hv1)).trans hv1
  have b2 : Below w.heap.size w W1 := b1.trans (bw.mono b1.size)
  have h0v := heap_lt hv2
  have hpol2 : er = 0 → ∃ pb, pp = some ⟨pb, 0, none⟩ ∧ PolAt W1 pb p := fun h => by
    obtain ⟨pb, e1, e2⟩ := hpol h
    exact ⟨pb, e1, e2.below bw⟩
  have f0 := (cell_of_heap hv2 0).trans rfl
  have f1 := (cell_of_heap hv2 1).trans rfl
  have f2 := (cell_of_heap hv2 2).trans rfl
  have g0 := frozen_of_heap hv2 0
  have g1 := frozen_of_heap hv2 1
  have g2 := frozen_of_heap hv2 2
  have hrw : rb < W1.heap.size := by rw [hW1, hrb]; simp
  have hvr : vb ≠ rb := by have := heap_lt hv1; omega
  have HB := Lib.hid (And.intro b2 (And.intro hv2 (And.intro hpol2 (HP.out.2.1.below b2))))
  clear hpol b1 hv1 bw hv2 b2 hpol2
  go_upto_region 2 with fail
  rw [← hW1, ← hrb]
  clear hW1 hrb
  by_cases h0 : er = 0
  · subst h0
    obtain ⟨pb, rfl, _⟩ := HB.out.2.2.1 rfl
    have hs0 : startS p days = 0 := HP.out.1.symm
    obtain ⟨d1, hd1⟩ : ∃ d, d = within a 0 ((days.length : Int) - 1) := ⟨_, rfl⟩
    obtain ⟨d2, hd2⟩ : ∃ d, d = within z a ((days.length : Int) - 1) := ⟨_, rfl⟩
    have hi1 : ∀ wx, Calls Tryz.prog 69 #[.int .i64 a, .int .i64 0, .int .i64 ((days.length : Int) - 1)] wx fun e w' => e = .returned (.bool d1) ∧ wx = w' := fun wx => by rw [hd1]; exact within_any a 0 _ wx
    have hi2 : ∀ wx, Calls Tryz.prog 69 #[.int .i64 z, .int .i64 a, .int .i64 ((days.length : Int) - 1)] wx fun e w' => e = .returned (.bool d2) ∧ wx = w' := fun wx => by rw [hd2]; exact within_any z a _ wx
    have HD := Lib.hid (And.intro hd1 (And.intro hd2 (And.intro hi1 (And.intro hi2 hs0))))
    clear hd1 hd2 hi1 hi2 hs0
    cases d1
    · go_wp2_with (go_at_call 69; refine (HD.out.2.2.1 _).mono ?_; rintro e w2 ⟨rfl, rfl⟩)
      have hf := need_out (a := a) (z := z) HD.out.2.2.2.2 (by rw [← HD.out.1]; rfl)
      refine bodyPost_ret (v := .tuple #[.agg #[.int .i64 0, .int .i64 0, .bool false], .int .i64 6]) (need_results (st3_heap HB.out.2.1 _ _ _) _ rfl rfl) rfl ⟨by rw [hf.1, hf.2], st3_below HB.out.1 hwv _ _ _⟩
    · cases d2
      · go_wp2_with (first | (go_at_call 69; (with_reducible refine (HD.out.2.2.1 _).mono ?_); rintro e w2 ⟨rfl, rfl⟩) | (go_at_call 69; (with_reducible refine (HD.out.2.2.2.1 _).mono ?_); rintro e w2 ⟨rfl, rfl⟩))
        have hf := need_out (a := a) (z := z) HD.out.2.2.2.2 (by rw [← HD.out.1, ← HD.out.2.1]; rfl)
        exact bodyPost_ret (v := .tuple #[.agg #[.int .i64 0, .int .i64 0, .bool false], .int .i64 6]) (need_results (st3_heap HB.out.2.1 _ _ _) _ rfl rfl) rfl ⟨by rw [hf.1, hf.2], st3_below HB.out.1 hwv _ _ _⟩
      · have hin : 0 ≤ a ∧ a ≤ z ∧ z < days.length := by have h1 := HD.out.1; have h2 := HD.out.2.1; simp [within] at h1 h2; omega
        obtain ⟨an, rfl⟩ := Int.eq_ofNat_of_zero_le hin.1
        obtain ⟨zn, rfl⟩ := Int.eq_ofNat_of_zero_le (show 0 ≤ z by omega)
        have haz : an ≤ zn := by omega
        have hzl : zn < days.length := by omega
        obtain ⟨pb', e1, hpol⟩ := HB.out.2.2.1 rfl
        injection e1 with e1
        injection e1 with e1 _ _
        subst e1
        obtain ⟨hck, hl4, _⟩ := start_ok HD.out.2.2.2.2
        have HC := Lib.hid (check_ok hck)
        obtain ⟨m, hm1⟩ : ∃ m, m = maxL (cutI p days an zn) := ⟨_, rfl⟩
        have hmj : IsStep p m := by
          obtain ⟨j, _, e⟩ := mxTo_is (cutI p days an zn) ((cutI p days an zn).length - 1)
          rw [hm1, maxL, e, cutI]
          rcases Nat.lt_or_ge j ((((forceS p days).drop an).take (zn + 1 - an)).length) with hj | hj
          · rw [List.getD_eq_getElem?_getD, List.getElem?_eq_getElem hj]
            simp only [List.getElem_take, List.getElem_drop, Option.getD_some]
            have := force_step hck days (an + j)
            rwa [List.getD_eq_getElem?_getD, List.getElem?_eq_getElem (by simp at hj; omega)] at this
          · rw [List.getD_eq_getElem?_getD, List.getElem?_eq_none hj]
            exact isStep_zero HC.out.1
        obtain ⟨j, rfl⟩ := Int.eq_ofNat_of_zero_le hmj.1
        have hjl : j < p.steps.length := by have := hmj.2; omega
        have hjl' : (j : Int) < (p.steps.length : Int) := by omega
        obtain ⟨bs, os, cs', p0, hbs, hsl, p1, p2, p3, p4⟩ := hpol.step hjl
        obtain ⟨st, hst⟩ : ∃ st, st = p.steps[j] := ⟨_, rfl⟩
        rw [← hst] at p1 p2 p3 p4
        have KC : ∀ {b o : Nat} {u : Value}, W1.cell? ⟨b, o, none⟩ = some u → ∀ w', Below W1.heap.size W1 w' → w'.cell? ⟨b, o, none⟩ = some u := fun h w' hb => (hb.cell (World.block_lt_of_cell? W1 _ h)).trans h
        have p0' := KC p0
        have p1' := KC p1
        have p2' := KC p2
        have p3' := KC p3
        have p4' := KC p4
        have fr' := KC fr
        have HI := Lib.hid (And.intro hpol (And.intro hm1 (And.intro hst (And.intro hck hl4))))
        have n1 : (0 : Int) ≤ (an : Int) := by omega
        have n2 : (an : Int) ≤ (zn : Int) + 1 := by omega
        have n4 : IntKind.i64.wrap ((zn : Int) + 1) = (zn : Int) + 1 := IntWalk.i64_in _ (by omega)
        clear hpol hm1 hst hck hl4 hmj KC p0 p1 p2 p3 p4 fr hin
        go_upto_region 6 with (first | (go_at_call 69; (with_reducible refine (HD.out.2.2.1 _).mono ?_); rintro e w2 ⟨rfl, rfl⟩) | (go_at_call 69; (with_reducible refine (HD.out.2.2.2.1 _).mono ?_); rintro e w2 ⟨rfl, rfl⟩))
        go_region_held3 (fun w' => Below W1.heap.size W1 w') (first | exact (Below.refl _ _).drew | assumption | exact (Below.refl _ _).drew.alloc (Nat.le_refl _) _ | exact B2.alloc B2.size _ | exact (((B2.setCell (Nat.le_refl _) _).setCell (Nat.le_refl _) _).setCell (Nat.le_refl _) _).setCell (Nat.le_refl _) _ | exact ((((B2.alloc B2.size _).setCell (by exact B2.size) _).setCell (by exact B2.size) _).setCell (by exact B2.size) _).setCell (by exact B2.size) _)
          (first
            | (go_at_call 66
               refine (force_any pb p A c days _ (HI.out.1.below ?_) ⟨HC.out.2.2.1, by have := HC.out.2.2.2.1; omega⟩ ⟨HC.out.2.2.2.2.1, by have := HC.out.2.2.2.2.2.1; omega⟩ ⟨HC.out.2.2.2.2.2.2.1, by have := HC.out.2.2.2.2.2.2.2.1; omega⟩ (HB.out.2.2.2.below ?_) (by have := HI.out.2.2.2.2; omega)).mono ?_
               · first | exact (Below.refl _ _).drew | exact (Below.refl _ _).drew.alloc (Nat.le_refl _) _
               · first | exact (Below.refl _ _).drew | exact (Below.refl _ _).drew.alloc (Nat.le_refl _) _
               rintro e w2 ⟨A2, c2, rfl, h1, h2⟩
               have B2 : Below W1.heap.size W1 w2 := by first | exact (Below.refl _ _).drew.trans h2 | exact ((Below.refl _ _).drew.alloc (Nat.le_refl _) _).trans (h2.mono (by simp))
               have v0 := (B2.cell (p := ⟨vb, 0, none⟩) h0v).trans f0
               have v1 := (B2.cell (p := ⟨vb, 1, none⟩) h0v).trans f1
               have v2 := (B2.cell (p := ⟨vb, 2, none⟩) h0v).trans f2
               have u0 := (B2.frozen (p := ⟨vb, 0, none⟩) h0v).trans g0
               have u1 := (B2.frozen (p := ⟨vb, 1, none⟩) h0v).trans g1
               have u2 := (B2.frozen (p := ⟨vb, 2, none⟩) h0v).trans g2
               have hv3 : vb < w2.heap.size := Nat.lt_of_lt_of_le h0v B2.size
               have hv4 : vb ≠ W1.heap.size := by omega
               have hv5 : vb ≠ w2.heap.size := by omega
               have hrd := h1.1
               have hge := h1.2
               rw [forceS_length] at hrd hge
               obtain ⟨g, o, rfl, hbg, hcg⟩ := hrd.2 (by omega)
               have n5 : (zn : Int) + 1 ≤ (c2 : Int) := by omega
               have n6 : (c2 = an) = False := eq_false (by omega)
               have hMX : ∀ cx W, Below w2.heap.size w2 W → Calls Tryz.prog 89 #[.slice (some ⟨g, o + an, none⟩) (zn + 1 - an) cx] W fun e w' => e = .returned (.int .i64 j) ∧ W = w' := fun cx W hW => by
                 have hL := cutI_length p days haz hzl
                 have := maxI_any (some ⟨g, o + an, none⟩) cx (cutI p days an zn) W ?_ (by rw [hL]; omega) (by rw [hL]; omega)
                 · rw [hL, ← HI.out.2.1] at this; exact this
                 · have := rd_sub (a := an) (m := zn + 1 - an) hrd (by omega) hbg hcg
                   rw [hL, cutI, ints, List.map_take, List.map_drop]; exact this.below hW
               have HM := Lib.hid hMX
               have c5 : c2 ≤ 9223372036854775807 := h1.2.2
               clear h1 hrd hge hcg hMX
               first
                 | (have hq : w2.heap[W1.heap.size]? = some (.cells #[.int .i64 0, .int .i64 0, .int .i64 0, .int .i64 0] 36 (0, 0)) := (h2.block _ (by simp)).trans (heap_alloc_new W1.drew _)
                    have z0 := (cell_of_heap hq 0).trans rfl
                    have z1 := (cell_of_heap hq 1).trans rfl
                    have z2 := (cell_of_heap hq 2).trans rfl
                    have z3 := (cell_of_heap hq 3).trans rfl
                    have y0 := frozen_of_heap hq 0
                    have y1 := frozen_of_heap hq 1
                    have y2 := frozen_of_heap hq 2
                    have y3 := frozen_of_heap hq 3
                    clear h2 hq)
                 | clear h2)
            | (go_at_call 89; (with_reducible refine (HM.out _ _ ?_).mono ?_); (first | exact Below.refl _ _ | exact (Below.refl _ _).alloc (Nat.le_refl _) _); rintro e w3 ⟨rfl, rfl⟩))
        all_goals
          go_wp2_with fail
          have hf := need_in (a := (an : Int)) (z := (zn : Int)) HD.out.2.2.2.2 (by rw [← HD.out.1, ← HD.out.2.1]; rfl)
          have hs : p.steps.getD j default = st := by rw [HI.out.2.2.1, List.getD_eq_getElem?_getD, List.getElem?_eq_getElem hjl]; rfl
          rw [Int.toNat_natCast, Int.toNat_natCast, ← HI.out.2.1, Int.toNat_natCast, hs] at hf
          have F := fun W hB => need_fin (W := W) HB.out.1 hwv HB.out.2.1 hB
          first
            | (refine bodyPost_ret (v := .tuple #[.agg #[.int .i64 st.cls, .int .i64 st.ton, .bool false], .int .i64 0]) (need_results (F _ ?_ _ _ _).1 _ rfl rfl) rfl ⟨by rw [hf.1, hf.2], (F _ ?_ _ _ _).2⟩
               all_goals first | exact B2 | exact (((B2.setCell (Nat.le_refl _) _).setCell (Nat.le_refl _) _).setCell (Nat.le_refl _) _).setCell (Nat.le_refl _) _)
            | exact bodyPost_ret (v := .tuple #[.agg #[.int .i64 st.cls, .int .i64 st.ton, .bool false], .int .i64 0]) (need_results (heap_alloc' (F _ B2 _ _ _).1 _) _ rfl rfl) rfl ⟨by rw [hf.1, hf.2], (F _ B2 _ _ _).2.alloc (F _ B2 _ _ _).2.size _⟩
  · have hne : (er != 0) = true := by simp [h0]
    have HK := Lib.hid h0
    clear h0
    go_wp2_with fail
    have hf := need_start (a := a) (z := z) (p := p) (days := days) (by rw [← HP.out.1]; exact HK.out)
    exact bodyPost_ret (v := .tuple #[.agg #[.int .i64 0, .int .i64 0, .bool false], .int .i64 er]) (need_results (st3_heap HB.out.2.1 _ _ _) _ rfl rfl) rfl ⟨by rw [hf.1, hf.2, HP.out.1], st3_below HB.out.1 hwv _ _ _⟩
end Go.Proofs.YtbgnkljjgfcngaaGreat
