/- polynyaref08: Need -/
import Derived.Test.YtbgnkljjgfcngaaGreatRSp20
import Derived.Test.YtbgnkljjgfcngaaGreatRSp22
import Derived.Test.YtbgnkljjgfcngaaGreatRSp21
set_option linter.unusedVariables false
set_option linter.unusedSimpArgs false
namespace Go.Proofs.YtbgnkljjgfcngaaGreat
open Go Go.RowKit Sp
set_option linter.unusedSimpArgs false
set_option linter.unusedVariables false

/-- the greatest of a number of the steps in force on n days from a on -/
def ndN (f : Stp → Int) (p : Pol) (F : List Int) (a : Nat) : Nat → Int
  | 0 => 0
  | n + 1 => if ndN f p F a n < f (stp p (F.getD (a + n) 0).toNat) then f (stp p (F.getD (a + n) 0).toNat) else ndN f p F a n
theorem ndN_is {f : Stp → Int} {p : Pol} {F M : List Int} {a : Nat} (hF : ∀ k, 0 ≤ F.getD k 0 ∧ F.getD k 0 < p.steps.length) (h0 : ∀ i, i < p.steps.length → 0 ≤ f (stp p i)) (hm : ∀ i j, i ≤ j → j < p.steps.length → f (stp p i) ≤ f (stp p j)) {n : Nat} (hM : ∀ k, k < n → M.getD k 0 = F.getD (a + k) 0) :
    ∀ k, k < n → ndN f p F a (k + 1) = f (stp p (mxTo M k).toNat) ∧ 0 ≤ mxTo M k ∧ mxTo M k < p.steps.length
  | 0, h => by
    have h1 := hM 0 h
    have h2 := hF (a + 0)
    have h3 := h0 (F.getD (a + 0) 0).toNat (by omega)
    refine ⟨?_, ?_⟩
    · rw [ndN, ndN, mxTo, h1]
      split <;> omega
    · rw [mxTo, h1]; exact h2
  | k + 1, h => by
    obtain ⟨i1, i2, i3⟩ := ndN_is (f := f) (M := M) hF h0 hm hM k (by omega)
    have h1 := hM (k + 1) h
    have h2 := hF (a + (k + 1))
    rw [ndN, i1, mxTo, h1]
    by_cases hlt : mxTo M k < F.getD (a + (k + 1)) 0
    · rw [if_pos hlt]
      have := hm (mxTo M k).toNat (F.getD (a + (k + 1)) 0).toNat (by omega) (by omega)
      refine ⟨?_, by omega, by omega⟩
      split <;> omega
    · rw [if_neg hlt]
      have := hm (F.getD (a + (k + 1)) 0).toNat (mxTo M k).toNat (by omega) (by omega)
      refine ⟨?_, by omega, by omega⟩
      split <;> omega
theorem need_ref {p : Pol} {days : List Int} {a z : Nat} (hc : checkS p = 0) (ha : a ≤ z) (hz : z < days.length) (hi : needE p days a z = 0) : needV p days a z = ⟨ndN Stp.cls p (forceS p days) a (z + 1 - a), ndN Stp.ton p (forceS p days) a (z + 1 - a), false⟩ := by
  have hl := cutI_length p days ha hz
  have hM : ∀ k, k < z + 1 - a → (cutI p days a z).getD k 0 = (forceS p days).getD (a + k) 0 := fun k hk => by
    rw [cutI, List.getD_eq_getElem?_getD, List.getElem?_take_of_lt hk, List.getElem?_drop, ← List.getD_eq_getElem?_getD]
  have hF : ∀ k, 0 ≤ (forceS p days).getD k 0 ∧ (forceS p days).getD k 0 < p.steps.length := fun k => force_step hc days k
  have e1 := (ndN_is (f := Stp.cls) (M := cutI p days a z) (a := a) hF (fun i hi => (stp_good hc hi).1) (fun i j h1 h2 => (stp_grow hc h1 h2).1) hM (z - a) (by omega)).1
  have e2 := (ndN_is (f := Stp.ton) (M := cutI p days a z) (a := a) hF (fun i hi => (stp_good hc hi).2.2.1) (fun i j h1 h2 => (stp_grow hc h1 h2).2.1) hM (z - a) (by omega)).1
  rw [show z + 1 - a = z - a + 1 from by omega, e1, e2]
  have h3 : maxL (cutI p days a z) = mxTo (cutI p days a z) (z - a) := by rw [maxL, hl, show z + 1 - a - 1 = z - a from by omega]
  simp only [needV, hi, if_true, Int.toNat_natCast, h3]
  rfl
theorem rneed_results {W : World} {vb : Nat} {x y e : Int} {b : Bool} (h : W.heap[vb]? = some (.cells #[.int .i64 x, .int .i64 y, .bool b] 94 (0, 0))) (tmps : Array Value) (h8 : tmps.getD 8 undef = .pointer (some ⟨vb, 0, none⟩)) (h9 : tmps.getD 9 undef = .int .i64 e) :
    (results Tryz.f47 tmps).run Tryz.prog W = .ok (.tuple #[.agg #[.int .i64 x, .int .i64 y, .bool b], .int .i64 e]) W := by
  have hr : Tryz.f47.results = #[.cell 8 94, .tmp 9] := rfl
  have g8 : tmps[8]?.getD undef = .pointer (some ⟨vb, 0, none⟩) := by simpa using h8
  have g9 : tmps[9]?.getD undef = .int .i64 e := by simpa using h9
  have c0 : W.cell? ⟨vb, 0, none⟩ = some (.int .i64 x) := (cell_of_heap h 0).trans rfl
  have c1 : W.cell? ⟨vb, 1, none⟩ = some (.int .i64 y) := (cell_of_heap h 1).trans rfl
  have c2 : W.cell? ⟨vb, 2, none⟩ = some (.bool b) := (cell_of_heap h 2).trans rfl
  simp [results, hr, g8, g9, asAddr, go_sem, c0, c1, c2]

set_option maxRecDepth 100000 in
set_option maxHeartbeats 4000000 in
theorem rNeed_any (As : Option Addr) (cs : Nat) (p : Pol) (A : Option Addr) (c : Nat) (days : List Int) (a z : Int) (w : World) (hp : PolV w As cs p) (hr : Rd w 1 A days.length (ints days)) (hm : days.length ≤ 9223372036854775807) :
    Calls Tryz.prog 47 #[.agg #[.slice As p.steps.length cs, .int .i64 p.hold, .int .i64 p.calm, .int .i64 p.notice, .int .i64 p.grace], .slice A days.length c, .int .i64 a, .int .i64 z] w (NeedPost w p days a z) := by
  have rd0 := RD.new (A := A) (days := days) hp hr
  obtain ⟨W1, hW1⟩ : ∃ W, W = w.alloc (.cells #[.slice As p.steps.length cs, .int .i64 p.hold, .int .i64 p.calm, .int .i64 p.notice, .int .i64 p.grace] 65) := ⟨_, rfl⟩
  obtain ⟨ob, hob⟩ : ∃ ob, ob = w.heap.size := ⟨_, rfl⟩
  rw [← hW1, ← hob] at rd0
  obtain ⟨W, hW⟩ : ∃ W, W = W1.alloc (.cells #[.int .i64 0, .int .i64 0, .bool false] 94) := ⟨_, rfl⟩
  obtain ⟨rb, hrb⟩ : ∃ vb, vb = W1.heap.size := ⟨_, rfl⟩
  have hrb2 : rb = ob + 1 := by rw [hrb, hW1, hob]; simp
  have hrbw : w.heap.size < rb := by rw [hrb2, hob]; omega
  have hvh : W.heap[rb]? = some (.cells #[.int .i64 0, .int .i64 0, .bool false] 94 (0, 0)) := by rw [hW, hrb]; exact heap_alloc_new _ _
  have rdW : RD w W ob As cs p A days := rd0.below (by rw [hW]; exact (Below.refl _ _).alloc (Nat.le_refl _) _)
  obtain ⟨er, her⟩ : ∃ er, er = startS p days := ⟨_, rfl⟩
  have k1 := begun_any As cs p A c days W rdW.pol rdW.dys hm
  rw [← her] at k1
  obtain ⟨q0, q1, q2, q3, q4, zp⟩ := rdW.cells
  obtain ⟨r1, hr1⟩ : ∃ r, r = within a 0 ((days.length : Int) - 1) := ⟨_, rfl⟩
  obtain ⟨r2, hr2⟩ : ∃ r, r = within z 0 ((days.length : Int) - 1) := ⟨_, rfl⟩
  have in1 : ∀ wx, Calls Tryz.prog 72 #[.int .i64 a, .int .i64 0, .int .i64 ((days.length : Int) - 1)] wx fun e w' => e = .returned (.bool r1) ∧ wx = w' := fun wx => by rw [hr1]; exact rin_any a 0 _ wx
  have in2 : ∀ wx, Calls Tryz.prog 72 #[.int .i64 z, .int .i64 0, .int .i64 ((days.length : Int) - 1)] wx fun e w' => e = .returned (.bool r2) ∧ wx = w' := fun wx => by rw [hr2]; exact rin_any z 0 _ wx
  have HR := Lib.hid (And.intro rdW (And.intro k1 (And.intro her (And.intro hvh hrbw))))
  have HD := Lib.hid (And.intro hr1 (And.intro hr2 (And.intro in1 in2)))
  clear hp hr rd0 rdW k1 her hvh hrb hr1 hr2 in1 in2 hrbw
  go_enter Tryz.func47, Tryz.ntmps47
  go_upto_region 1 with fail
  rw [← hW1, ← hob, ← hrb2, ← hW]
  clear hW hob hW1 hrb2
  go_wp2_with fail
  refine HR.out.2.1.mono ?_
  rintro e w1 ⟨rfl, b1⟩
  have rd1 := HR.out.1.below b1
  have hv1 := (b1.block _ (heap_lt HR.out.2.2.2.1)).trans HR.out.2.2.2.1
  have f0 := (cell_of_heap hv1 0).trans rfl
  have f1 := (cell_of_heap hv1 1).trans rfl
  have f2 := (cell_of_heap hv1 2).trans rfl
  have g0 := frozen_of_heap hv1 0
  have g1 := frozen_of_heap hv1 1
  have g2 := frozen_of_heap hv1 2
  have HB := Lib.hid (And.intro rd1 hv1)
  clear q0 q1 q2 q3 q4 zp b1 rd1 hv1
  have bad : ∀ e : Int, needE p days a z = e → e ≠ 0 → NeedPost w p days a z (.returned (.tuple #[.agg #[.int .i64 0, .int .i64 0, .bool false], .int .i64 e])) (((w1.setCell ⟨rb, 0, none⟩ (.int .i64 0)).setCell ⟨rb, 1, none⟩ (.int .i64 0)).setCell ⟨rb, 2, none⟩ (.bool false)) := fun e he h0 => by
    have hv : needV p days a z = ⟨0, 0, false⟩ := by unfold needV; rw [he, if_neg h0]
    exact ⟨by rw [hv, he], st3_below HB.out.1.bel (by have := HR.out.2.2.2.2; omega) _ _ _⟩
  have HBAD := Lib.hid bad
  clear bad
  by_cases h0 : er = 0
  · subst h0
    have hs : startS p days = 0 := HR.out.2.2.1.symm
    have HK := Lib.hid hs
    have out6 : (within a 0 ((days.length : Int) - 1) && within z a ((days.length : Int) - 1)) = false → needE p days a z = 6 := fun h => (need_out HK.out h).1
    have HO6 := Lib.hid out6
    clear hs out6
    cases r1
    · have h6 := HO6.out (by rw [← HD.out.1]; rfl)
      have H6 := Lib.hid h6
      clear h6
      go_wp2_with fail
      refine (HD.out.2.2.1 _).mono ?_
      rintro e w2 ⟨rfl, rfl⟩
      go_wp2_with fail
      exact bodyPost_ret (rneed_results (st3_heap HB.out.2 _ _ _) _ rfl rfl) rfl (HBAD.out 6 H6.out (by decide))
    · cases r2
      · have ha0 : 0 ≤ a := by have := HD.out.1; simp [within] at this; omega
        have hz0 : z < 0 ∨ (days.length : Int) ≤ z := by have := HD.out.2.1; simp [within] at this; omega
        have h6 := HO6.out (by rw [Bool.and_eq_false_iff]; right; simp [within]; omega)
        have H6 := Lib.hid h6
        clear h6 ha0 hz0
        go_wp2_with fail
        refine (HD.out.2.2.1 _).mono ?_
        rintro e w2 ⟨rfl, rfl⟩
        go_wp2_with fail
        refine (HD.out.2.2.2 _).mono ?_
        rintro e w2 ⟨rfl, rfl⟩
        go_wp2_with fail
        exact bodyPost_ret (rneed_results (st3_heap HB.out.2 _ _ _) _ rfl rfl) rfl (HBAD.out 6 H6.out (by decide))
      · have ha : 0 ≤ a ∧ a < days.length := by have := HD.out.1; simp [within] at this; omega
        have hz : 0 ≤ z ∧ z < days.length := by have := HD.out.2.1; simp [within] at this; omega
        obtain ⟨a, rfl⟩ : ∃ k : Nat, a = k := ⟨a.toNat, by omega⟩
        obtain ⟨z, rfl⟩ : ∃ k : Nat, z = k := ⟨z.toNat, by omega⟩
        have hal : a < days.length := by omega
        have hzl : z < days.length := by omega
        clear ha hz
        by_cases hza : z < a
        · have hza' : (z : Int) < (a : Int) := by omega
          have h6 := HO6.out (by rw [← HD.out.1]; simp [within]; omega)
          have H6 := Lib.hid h6
          clear h6
          go_wp2_with fail
          refine (HD.out.2.2.1 _).mono ?_
          rintro e w2 ⟨rfl, rfl⟩
          go_wp2_with fail
          refine (HD.out.2.2.2 _).mono ?_
          rintro e w2 ⟨rfl, rfl⟩
          go_wp2_with fail
          exact bodyPost_ret (rneed_results (st3_heap HB.out.2 _ _ _) _ rfl rfl) rfl (HBAD.out 6 H6.out (by decide))
        · have hza' : ¬ (z : Int) < (a : Int) := by omega
          have hne0 : needE p days a z = 0 := (need_in HK.out (by simp [within]; omega)).1
          obtain ⟨hck, hl4, _⟩ := start_ok HK.out
          have hnd := need_ref hck (show a ≤ z by omega) hzl hne0
          have HN := Lib.hid (And.intro hne0 (And.intro hck hnd))
          clear hne0 hck hnd
          go_wp2_with fail
          refine (HD.out.2.2.1 _).mono ?_
          rintro e w2 ⟨rfl, rfl⟩
          go_wp2_with fail
          refine (HD.out.2.2.2 _).mono ?_
          rintro e w2 ⟨rfl, rfl⟩
          go_upto_region 7 with fail
          obtain ⟨xb, hxb⟩ : ∃ xb, xb = w1.heap.size := ⟨_, rfl⟩
          obtain ⟨W3, hW3⟩ : ∃ W3, W3 = w1.alloc (.cells #[.int .i64 0, .int .i64 0, .bool false] 94) := ⟨_, rfl⟩
          rw [← hxb, ← hW3]
          have hx3 : W3.heap[xb]? = some (.cells #[.int .i64 0, .int .i64 0, .bool false] 94 (0, 0)) := by rw [hW3, hxb]; exact heap_alloc_new _ _
          have b3 : Below w1.heap.size w1 W3 := by rw [hW3]; exact (Below.refl _ _).alloc (Nat.le_refl _) _
          have rd3 := HB.out.1.below b3
          have hv3 := (b3.block _ (heap_lt HB.out.2)).trans HB.out.2
          have hrx : rb < xb ∧ ob < xb ∧ xb = w1.heap.size := by have h1 := heap_lt HB.out.2; have h2 := heap_lt HB.out.1.blk; omega
          have k2 := rforce_new As cs p A c days W3 rd3.pol rd3.dys HN.out.2.1 hl4
          obtain ⟨q0, q1, q2, q3, q4, zp⟩ := rd3.cells
          have H3 := Lib.hid (And.intro rd3 (And.intro hv3 (And.intro hx3 (And.intro k2 hrx))))
          clear rd3 hv3 hx3 k2 hxb hW3 b3 f0 f1 f2 g0 g1 g2 hrx
          go_wp2_with fail
          refine H3.out.2.2.2.1.mono ?_
          rintro e W5 ⟨Al, cl, rfl, h1, _, _, b5, hnew⟩
          have rd5 := H3.out.1.below b5
          have hv5 := (b5.block _ (heap_lt H3.out.2.1)).trans H3.out.2.1
          have hx5 := (b5.block _ (heap_lt H3.out.2.2.1)).trans H3.out.2.2.1
          obtain ⟨F, hF⟩ : ∃ F, F = forceS p days := ⟨_, rfl⟩
          have hFl : F.length = days.length := by rw [hF, forceS_length]
          rw [← hF] at h1
          have hlx : ∀ b o, Al = some ⟨b, o, none⟩ → b ≠ xb := fun b o e => by have h5 := hnew b o e (by omega); have h6 := heap_lt H3.out.2.2.1; omega
          have hsx : ∀ b o, As = some ⟨b, o, none⟩ → b ≠ xb := fun b o e => by
            have h9 := (check_ok HN.out.2.1).1
            obtain ⟨b', o', e', hb', _⟩ := HB.out.1.pol.2.2.2 (List.length_pos_iff.2 h9)
            rw [e] at e'; injection e' with e'; injection e' with e1
            have := H3.out.2.2.2.2.2.2; omega
          have HLX := Lib.hid (And.intro hlx hsx)
          clear hlx hsx hnew
          have H5 := Lib.hid (And.intro h1 (And.intro rd5 (And.intro hv5 (And.intro hx5 (And.intro hF hFl)))))
          clear h1 b5 rd5 hv5 hx5 hF hFl q0 q1 q2 q3 q4 zp
          go_wp2_with fail
          go_loopw [13] (fun i wr => ∃ d : Nat, a ≤ d ∧ d ≤ z + 1 ∧ i = .int .i64 d ∧ wr.heap[xb]? = some (.cells #[.int .i64 (ndN Stp.cls p F a (d - a)), .int .i64 (ndN Stp.ton p F a (d - a)), .bool false] 94 (0, 0)) ∧ Keep [xb] W5 wr) (fun i _ => z + 1 - (intOf i).toNat)
          case atStart => exact ⟨a, Nat.le_refl _, by omega, rfl, by rw [Nat.sub_self]; exact H5.out.2.2.2.1, Keep.refl _ _⟩
          case round =>
            obtain ⟨d, hd1, hd2, rfl, hx, hK⟩ := hrel
            obtain ⟨mc, hmc⟩ : ∃ m, m = ndN Stp.cls p F a (d - a) := ⟨_, rfl⟩
            obtain ⟨mt, hmt⟩ : ∃ m, m = ndN Stp.ton p F a (d - a) := ⟨_, rfl⟩
            rw [← hmc, ← hmt] at hx
            have x0 := (cell_of_heap hx 0).trans rfl
            have x1 := (cell_of_heap hx 1).trans rfl
            have x2 := (cell_of_heap hx 2).trans rfl
            have y0 := frozen_of_heap hx 0
            have y1 := frozen_of_heap hx 1
            have zx := heap_lt hx
            have HX := Lib.hid (And.intro hx (And.intro hK (And.intro hmc hmt)))
            by_cases hdz : d ≤ z
            · have hfs := force_step HN.out.2.1 days d
              obtain ⟨j, hj⟩ := Int.eq_ofNat_of_zero_le hfs.1
              have hjl : j < p.steps.length := by have := hfs.2; omega
              have hjl' : (j : Int) < (p.steps.length : Int) := by omega
              obtain ⟨bl, ol, rfl, zl, cl'⟩ := H5.out.1.2 (by omega)
              have cx := hK.cell (cl' d _ (ints_get (by rw [H5.out.2.2.2.2.2]; omega))) (by simpa using HLX.out.1 bl ol rfl)
              rw [H5.out.2.2.2.2.1, hj] at cx
              obtain ⟨bs, os, rfl, hbs, p0, p1, p2, p3⟩ := H5.out.2.1.step hjl
              have nbs := HLX.out.2 bs os rfl
              have p0 := hK.cell p0 (by simpa using nbs)
              have p1 := hK.cell p1 (by simpa using nbs)
              have q0 := hK.cell H5.out.2.1.cells.1 (by have := H3.out.2.2.2.2; simp; omega)
              obtain ⟨st, hst2⟩ : ∃ st, st = stp p j := ⟨_, rfl⟩
              rw [← hst2] at p0 p1
              have KC : ∀ {b o : Nat} {u : Value}, wr.cell? ⟨b, o, none⟩ = some u → b ≠ xb → ∀ w', Keep [xb] wr w' → w'.cell? ⟨b, o, none⟩ = some u := fun h hn w' hk => hk.cell h (by simpa using hn)
              have n1 : (0 : Int) ≤ (d : Int) := by omega
              have n2 : (d : Int) < (days.length : Int) := by omega
              have n3 : (0 : Int) ≤ (j : Int) := by omega
              have nn : ∀ f : Stp → Int, ndN f p F a (d + 1 - a) = if ndN f p F a (d - a) < f st then f st else ndN f p F a (d - a) := fun f => by
                rw [show d + 1 - a = (d - a) + 1 from by omega, ndN, show a + (d - a) = d from by omega, H5.out.2.2.2.2.1, hj, hst2]; rfl
              have HS := Lib.hid (And.intro nn nbs)
              clear hfs hj hst2 KC cl' hx hK hmc hmt x2 nn nbs
              by_cases hcl : mc < st.cls
              · by_cases htl : mt < st.ton
                · go_upto_region 11 with fail
                  go_region
                  go_upto_region 12 with fail
                  have hwm : (wr.setCell ⟨xb, 0, none⟩ (.int .i64 st.cls)).drew.heap[xb]? = some (.cells #[.int .i64 st.cls, .int .i64 mt, .bool false] 94 (0, 0)) := heap_set HX.out.1 0 _
                  have hKm : Keep [xb] wr (wr.setCell ⟨xb, 0, none⟩ (.int .i64 st.cls)).drew := ((Keep.refl _ _).setCell (.inl (by simp)) _).drew
                  have c0 := hKm.cell p0 (by simpa using HS.out.2)
                  have c1 := hKm.cell p1 (by simpa using HS.out.2)
                  have c2 := hKm.cell q0 (by have := H3.out.2.2.2.2; simp; omega)
                  have c3 := hKm.cell cx (by simpa using HLX.out.1 bl ol rfl)
                  have c4 := (cell_of_heap hwm 1).trans rfl
                  have c5 := frozen_of_heap hwm 1
                  have zm := heap_lt hwm
                  have HM := Lib.hid (And.intro hwm hKm)
                  generalize (wr.setCell ⟨xb, 0, none⟩ (.int .i64 st.cls)).drew = wm at HM c0 c1 c2 c3 c4 c5 zm ⊢
                  clear p0 p1 q0 cx x0 x1 y0 y1 zx hwm hKm
                  go_region
                  go_wp2_with fail
                  go_roundw
                  case measure => simp [intOf]; omega
                  case rel => exact ⟨d + 1, by omega, by omega, by go_num, by rw [HS.out.1 Stp.cls, HS.out.1 Stp.ton, ← HX.out.2.2.1, ← HX.out.2.2.2, if_pos hcl, if_pos htl]; exact heap_set HM.out.1 1 _, HX.out.2.1.trans (HM.out.2.trans (((Keep.refl [xb] wm).setCell (.inl (by simp)) _).drew) (fun y hy => .inl hy)) (fun y hy => .inl hy)⟩
                · go_upto_region 11 with fail
                  go_region
                  go_upto_region 12 with fail
                  have hwm : (wr.setCell ⟨xb, 0, none⟩ (.int .i64 st.cls)).drew.heap[xb]? = some (.cells #[.int .i64 st.cls, .int .i64 mt, .bool false] 94 (0, 0)) := heap_set HX.out.1 0 _
                  have hKm : Keep [xb] wr (wr.setCell ⟨xb, 0, none⟩ (.int .i64 st.cls)).drew := ((Keep.refl _ _).setCell (.inl (by simp)) _).drew
                  have c0 := hKm.cell p0 (by simpa using HS.out.2)
                  have c1 := hKm.cell p1 (by simpa using HS.out.2)
                  have c2 := hKm.cell q0 (by have := H3.out.2.2.2.2; simp; omega)
                  have c3 := hKm.cell cx (by simpa using HLX.out.1 bl ol rfl)
                  have c4 := (cell_of_heap hwm 1).trans rfl
                  have c5 := frozen_of_heap hwm 1
                  have zm := heap_lt hwm
                  have HM := Lib.hid (And.intro hwm hKm)
                  generalize (wr.setCell ⟨xb, 0, none⟩ (.int .i64 st.cls)).drew = wm at HM c0 c1 c2 c3 c4 c5 zm ⊢
                  clear p0 p1 q0 cx x0 x1 y0 y1 zx hwm hKm
                  go_region
                  go_wp2_with fail
                  go_roundw
                  case measure => simp [intOf]; omega
                  case rel => exact ⟨d + 1, by omega, by omega, by go_num, by rw [HS.out.1 Stp.cls, HS.out.1 Stp.ton, ← HX.out.2.2.1, ← HX.out.2.2.2, if_pos hcl, if_neg (by omega)]; exact heap_set HM.out.1 1 _, HX.out.2.1.trans (HM.out.2.trans (((Keep.refl [xb] wm).setCell (.inl (by simp)) _).drew) (fun y hy => .inl hy)) (fun y hy => .inl hy)⟩
              · by_cases htl : mt < st.ton
                · go_upto_region 11 with fail
                  go_region
                  go_upto_region 12 with fail
                  have hwm : (wr.setCell ⟨xb, 0, none⟩ (.int .i64 mc)).drew.heap[xb]? = some (.cells #[.int .i64 mc, .int .i64 mt, .bool false] 94 (0, 0)) := heap_set HX.out.1 0 _
                  have hKm : Keep [xb] wr (wr.setCell ⟨xb, 0, none⟩ (.int .i64 mc)).drew := ((Keep.refl _ _).setCell (.inl (by simp)) _).drew
                  have c0 := hKm.cell p0 (by simpa using HS.out.2)
                  have c1 := hKm.cell p1 (by simpa using HS.out.2)
                  have c2 := hKm.cell q0 (by have := H3.out.2.2.2.2; simp; omega)
                  have c3 := hKm.cell cx (by simpa using HLX.out.1 bl ol rfl)
                  have c4 := (cell_of_heap hwm 1).trans rfl
                  have c5 := frozen_of_heap hwm 1
                  have zm := heap_lt hwm
                  have HM := Lib.hid (And.intro hwm hKm)
                  generalize (wr.setCell ⟨xb, 0, none⟩ (.int .i64 mc)).drew = wm at HM c0 c1 c2 c3 c4 c5 zm ⊢
                  clear p0 p1 q0 cx x0 x1 y0 y1 zx hwm hKm
                  go_region
                  go_wp2_with fail
                  go_roundw
                  case measure => simp [intOf]; omega
                  case rel => exact ⟨d + 1, by omega, by omega, by go_num, by rw [HS.out.1 Stp.cls, HS.out.1 Stp.ton, ← HX.out.2.2.1, ← HX.out.2.2.2, if_neg (by omega), if_pos htl]; exact heap_set HM.out.1 1 _, HX.out.2.1.trans (HM.out.2.trans (((Keep.refl [xb] wm).setCell (.inl (by simp)) _).drew) (fun y hy => .inl hy)) (fun y hy => .inl hy)⟩
                · go_upto_region 11 with fail
                  go_region
                  go_upto_region 12 with fail
                  have hwm : (wr.setCell ⟨xb, 0, none⟩ (.int .i64 mc)).drew.heap[xb]? = some (.cells #[.int .i64 mc, .int .i64 mt, .bool false] 94 (0, 0)) := heap_set HX.out.1 0 _
                  have hKm : Keep [xb] wr (wr.setCell ⟨xb, 0, none⟩ (.int .i64 mc)).drew := ((Keep.refl _ _).setCell (.inl (by simp)) _).drew
                  have c0 := hKm.cell p0 (by simpa using HS.out.2)
                  have c1 := hKm.cell p1 (by simpa using HS.out.2)
                  have c2 := hKm.cell q0 (by have := H3.out.2.2.2.2; simp; omega)
                  have c3 := hKm.cell cx (by simpa using HLX.out.1 bl ol rfl)
                  have c4 := (cell_of_heap hwm 1).trans rfl
                  have c5 := frozen_of_heap hwm 1
                  have zm := heap_lt hwm
                  have HM := Lib.hid (And.intro hwm hKm)
                  generalize (wr.setCell ⟨xb, 0, none⟩ (.int .i64 mc)).drew = wm at HM c0 c1 c2 c3 c4 c5 zm ⊢
                  clear p0 p1 q0 cx x0 x1 y0 y1 zx hwm hKm
                  go_region
                  go_wp2_with fail
                  go_roundw
                  case measure => simp [intOf]; omega
                  case rel => exact ⟨d + 1, by omega, by omega, by go_num, by rw [HS.out.1 Stp.cls, HS.out.1 Stp.ton, ← HX.out.2.2.1, ← HX.out.2.2.2, if_neg (by omega), if_neg (by omega)]; exact heap_set HM.out.1 1 _, HX.out.2.1.trans (HM.out.2.trans (((Keep.refl [xb] wm).setCell (.inl (by simp)) _).drew) (fun y hy => .inl hy)) (fun y hy => .inl hy)⟩
            · obtain rfl : d = z + 1 := by omega
              have hrw := (hK.block rb (heap_lt H5.out.2.2.1) (by have := H3.out.2.2.2.2; simp; omega)).trans H5.out.2.2.1
              have f0 := (cell_of_heap hrw 0).trans rfl
              have f1 := (cell_of_heap hrw 1).trans rfl
              have f2 := (cell_of_heap hrw 2).trans rfl
              have g0 := frozen_of_heap hrw 0
              have g1 := frozen_of_heap hrw 1
              have g2 := frozen_of_heap hrw 2
              have HRW := Lib.hid hrw
              clear hx hK hmc hmt hrw
              go_wp2_with fail
              refine bodyPost_ret (rneed_results (st3_heap HRW.out _ _ _) _ rfl rfl) rfl ⟨?_, st3_below (H5.out.2.1.bel.trans (HX.out.2.1.below H5.out.2.1.bel.size (by have := H3.out.2.2.2.2; have := HR.out.2.2.2.2; simp; omega))) (by have := HR.out.2.2.2.2; omega) _ _ _⟩
              rw [HN.out.2.2, HN.out.1, HX.out.2.2.1, HX.out.2.2.2, H5.out.2.2.2.2.1]
  · have hne : (er != 0) = true := by simp [h0]
    have hE : needE p days a z = er := by rw [HR.out.2.2.1]; exact (need_start (by rw [← HR.out.2.2.1]; exact h0)).1
    have HK := Lib.hid (And.intro h0 hE)
    clear h0 hE
    go_wp2_with fail
    exact bodyPost_ret (rneed_results (st3_heap HB.out.2 _ _ _) _ rfl rfl) rfl (HBAD.out er HK.out.2 HK.out.1)
end Go.Proofs.YtbgnkljjgfcngaaGreat
/- polynyaref08: Review -/
namespace Go.Proofs.YtbgnkljjgfcngaaGreat
open Go Go.RowKit Sp
set_option linter.unusedSimpArgs false
set_option linter.unusedVariables false

/-- what is said of a passage behind n days, from its last one down -/
def saidN (p : Pol) (L : List Bool) (a z : Nat) : Nat → Int
  | 0 => 0
  | n + 1 => if L.getD (z - n) false = true then saidN p L a z n else if z - n = a then 1 else if ((z - n : Nat) : Int) + p.grace < z then 2 else 0
def saidG (p : Pol) (a z e : Nat) (i : Int) : Int := if i = -1 then 0 else if (e : Int) + i = a then 1 else if (e : Int) + i + p.grace < z then 2 else 0
def lastDays (L : List Bool) (z : Nat) : Nat → List Bool
  | 0 => []
  | n + 1 => L.getD (z - n) false :: lastDays L z n
theorem lastDays_length (L : List Bool) (z : Nat) : ∀ n, (lastDays L z n).length = n
  | 0 => rfl
  | n + 1 => by rw [lastDays, List.length_cons, lastDays_length]
theorem lastDays_get (L : List Bool) (z : Nat) : ∀ n, n ≤ z + 1 → ∀ i, i < n → (lastDays L z n).getD i false = L.getD (z + 1 - n + i) false
  | 0, _, i, h => absurd h (by omega)
  | n + 1, hn, i, h => by
    cases i with
    | zero => rw [lastDays, List.getD_cons_zero, show z + 1 - (n + 1) + 0 = z - n from by omega]
    | succ i => rw [lastDays, List.getD_cons_succ, lastDays_get L z n (by omega) i (by omega), show z + 1 - n + i = z + 1 - (n + 1) + (i + 1) from by omega]
theorem said_is (p : Pol) (L : List Bool) {a z : Nat} : ∀ n, n ≤ z + 1 - a → a ≤ z → saidN p L a z n = saidG p a z (z + 1 - n) (idxL false (lastDays L z n))
  | 0, _, _ => rfl
  | n + 1, hn, ha => by
    have ih := said_is p L (a := a) (z := z) n (by omega) ha
    have hr := idxL_range false (lastDays L z n)
    have ee : z + 1 - (n + 1) = z - n := by omega
    cases hb : L.getD (z - n) false
    · have hs : saidN p L a z (n + 1) = if z - n = a then 1 else if ((z - n : Nat) : Int) + p.grace < z then 2 else 0 := by rw [saidN, hb]; rfl
      have hx : idxL false (lastDays L z (n + 1)) = 0 := by rw [lastDays, idxL, hb]; rfl
      rw [hs, hx, saidG, ee]
      by_cases h : z - n = a
      · rw [if_pos h, if_neg (by omega : ¬ (0 : Int) = -1), if_pos (by omega : ((z - n : Nat) : Int) + 0 = a)]
      · rw [if_neg h, if_neg (by omega : ¬ (0 : Int) = -1), if_neg (by omega : ¬ ((z - n : Nat) : Int) + 0 = a)]
        simp
    · have hs : saidN p L a z (n + 1) = saidN p L a z n := by rw [saidN, hb]; rfl
      have hx : idxL false (lastDays L z (n + 1)) = if idxL false (lastDays L z n) = -1 then -1 else idxL false (lastDays L z n) + 1 := by rw [lastDays, idxL, hb]; rfl
      rw [hs, hx, ih, saidG, saidG, ee]
      by_cases h : idxL false (lastDays L z n) = -1
      · rw [if_pos h, if_pos h, if_pos rfl]
      · have h' : ¬ idxL false (lastDays L z n) + 1 = -1 := by omega
        rw [if_neg h, if_neg h, if_neg h']
        rw [show ((z - n : Nat) : Int) + (idxL false (lastDays L z n) + 1) = ((z + 1 - n : Nat) : Int) + idxL false (lastDays L z n) from by omega]
theorem said_outcome {p : Pol} {days : List Int} {x : Psg} {a z : Nat} (h1 : x.ent = a) (h2 : x.lea = z) (h3 : a ≤ z) (h4 : z < days.length) : saidN p (passesS p days x.ves) a z (z + 1 - a) = outcome p days x := by
  rw [said_is p _ _ (Nat.le_refl _) h3]
  have hl : lastDays (passesS p days x.ves) z (z + 1 - a) = ((passesS p days x.ves).drop a).take (z + 1 - a) := by
    have hlen : (((passesS p days x.ves).drop a).take (z + 1 - a)).length = z + 1 - a := by rw [List.length_take, List.length_drop, passesS_length]; omega
    apply List.ext_getElem
    · rw [lastDays_length, hlen]
    · intro i hi1 hi2
      rw [lastDays_length] at hi1
      have e1 := lastDays_get (passesS p days x.ves) z (z + 1 - a) (by omega) i hi1
      rw [List.getD_eq_getElem?_getD, List.getElem?_eq_getElem (by rw [lastDays_length]; exact hi1), Option.getD_some] at e1
      rw [e1, List.getElem_take, List.getElem_drop, show z + 1 - (z + 1 - a) + i = a + i from by omega, List.getD_eq_getElem?_getD, List.getElem?_eq_getElem (by rw [passesS_length]; omega), Option.getD_some]
  rw [hl, outcome, h1, h2]
  have e1 : ((z : Int) + 1 - a).toNat = z + 1 - a := by omega
  simp only [Int.toNat_natCast, e1]
  obtain ⟨f, hf⟩ : ∃ f, f = idxL false (((passesS p days x.ves).drop a).take (z + 1 - a)) := ⟨_, rfl⟩
  have hr := idxL_range false (((passesS p days x.ves).drop a).take (z + 1 - a))
  rw [← hf] at hr ⊢
  rw [saidG, show z + 1 - (z + 1 - a) = a from by omega]
  by_cases g0 : f = 0
  · rw [if_neg (by omega), if_pos (by omega), if_pos g0]
  · rw [if_neg g0]
    by_cases g1 : f = -1
    · rw [if_pos g1, if_neg (by omega)]
    · rw [if_neg g1, if_neg (by omega)]
      by_cases g2 : (a : Int) + f + p.grace < z
      · rw [if_pos g2, if_pos ⟨by omega, g2⟩]
      · rw [if_neg g2, if_neg (by omega)]
theorem psgE_ref {n : Int} {x : Psg} (hv : vright x.ves = true) : psgE n x = if within x.ent 0 (n - 1) = true ∧ within x.lea 0 (n - 1) = true ∧ ¬ x.lea < x.ent then 0 else 6 := by
  unfold psgE
  rw [hv]
  simp only [within, Bool.not_true, Bool.false_eq_true, if_false, Bool.or_eq_true, Bool.not_eq_true', Bool.and_eq_true, Bool.and_eq_false_iff, decide_eq_true_eq, decide_eq_false_iff_not]
  by_cases h : (0 ≤ x.ent ∧ x.ent ≤ n - 1) ∧ (0 ≤ x.lea ∧ x.lea ≤ n - 1) ∧ ¬ x.lea < x.ent
  · rw [if_neg (by omega), if_pos h]
  · rw [if_neg h, if_pos (by omega)]
theorem psgE_bad {n : Int} {x : Psg} (hv : vright x.ves = false) : psgE n x = 1 := by unfold psgE; rw [hv]; rfl
end Go.Proofs.YtbgnkljjgfcngaaGreat
