/- port.CheckPlan -/
import Derived.Test.YthmldeningpjbaaPBp9
import Derived.Test.YthmldeningpjbaaPBp1
set_option linter.unusedVariables false
set_option linter.unusedSimpArgs false
namespace Go.Proofs.Ythmldeningpjbaa
open Go Go.RowKit Go.WideMaps Sp Pt
set_option linter.unusedVariables false
set_option linter.unusedSimpArgs false

theorem checkL_1 {p : Prt} {l : Pln} {e : Int} (h : checkP p = e) (h0 : e ≠ 0) : checkL p l = e := by unfold checkL; rw [if_pos (by rw [h]; exact h0), h]
theorem checkL_2 {p : Prt} {l : Pln} (h : checkP p = 0) (h1 : 60 < l.calls.length ∨ 200 < l.swps.length) : checkL p l = 2 := by unfold checkL; rw [if_neg (by rw [h]; simp), if_pos h1]
theorem checkL_3 {p : Prt} {l : Pln} (h : checkP p = 0) (h1 : ¬ (60 < l.calls.length ∨ 200 < l.swps.length)) (h2 : within l.hours 1 100 = false) : checkL p l = 6 := by unfold checkL; rw [if_neg (by rw [h]; simp), if_neg h1, if_pos h2]
theorem checkL_4 {p : Prt} {l : Pln} {e : Int} (h : checkP p = 0) (h1 : ¬ (60 < l.calls.length ∨ 200 < l.swps.length)) (h2 : within l.hours 1 100 = true) (h3 : callsE p l.hours 0 l.calls = e) (h0 : e ≠ 0) : checkL p l = e := by unfold checkL; rw [if_neg (by rw [h]; simp), if_neg h1, if_neg (by rw [h2]; simp), if_pos (by rw [h3]; exact h0), h3]
theorem checkL_5 {p : Prt} {l : Pln} {e : Int} (h : checkP p = 0) (h1 : ¬ (60 < l.calls.length ∨ 200 < l.swps.length)) (h2 : within l.hours 1 100 = true) (h3 : callsE p l.hours 0 l.calls = 0) (h4 : swpsE p l.hours l.swps = e) (h0 : e ≠ 0) : checkL p l = e := by unfold checkL; rw [if_neg (by rw [h]; simp), if_neg h1, if_neg (by rw [h2]; simp), if_neg (by rw [h3]; simp), if_pos (by rw [h4]; exact h0), h4]
theorem checkL_6 {p : Prt} {l : Pln} (h : checkP p = 0) (h1 : ¬ (60 < l.calls.length ∨ 200 < l.swps.length)) (h2 : within l.hours 1 100 = true) (h3 : callsE p l.hours 0 l.calls = 0) (h4 : swpsE p l.hours l.swps = 0) : checkL p l = finE p.tugs (l.swps.foldl addSwp (tlyCalls p l.hours.toNat l.calls).tugs) (tlyCalls p l.hours.toNat l.calls).twice 0 l.hours.toNat := by
  unfold checkL; rw [if_neg (by rw [h]; simp), if_neg h1, if_neg (by rw [h2]; simp), if_neg (by rw [h3]; simp), if_neg (by rw [h4]; simp)]
theorem drop_cons' {T : Type} {l : List T} {k : Nat} (hk : k < l.length) : l.drop k = l[k] :: l.drop (k + 1) := List.drop_eq_getElem_cons hk

/-- where a port and a plan lie -/
structure BxC (w W : World) (pb lb D : Nat) (Ac : Option Addr) (cc : Nat) (Ab : Option Addr) (cb : Nat) (p : Prt) (Al : Option Addr) (cl : Nat) (As : Option Addr) (cs : Nat) (l : Pln) : Prop where
  hp : W.heap[pb]? = some (.cells (prtV Ac cc Ab cb p) 26 (0, 0))
  hl : W.heap[lb]? = some (.cells (plnV Al cl As cs l) 31 (0, 0))
  PB : PrtB D W Ac cc Ab cb p
  LB : PlnB D W Al cl As cs l
  hD : D ≤ W.heap.size
  bel : Below w.heap.size w W
section
variable {w W X : World} {pb lb D : Nat} {Ac : Option Addr} {cc : Nat} {Ab : Option Addr} {cb : Nat} {p : Prt} {Al : Option Addr} {cl : Nat} {As : Option Addr} {cs : Nat} {l : Pln}
theorem BxC.below (h : BxC w W pb lb D Ac cc Ab cb p Al cl As cs l) (hb : Below W.heap.size W X) : BxC w X pb lb D Ac cc Ab cb p Al cl As cs l :=
  ⟨(hb.block _ (heap_lt h.hp)).trans h.hp, (hb.block _ (heap_lt h.hl)).trans h.hl, h.PB.below (hb.mono h.hD), h.LB.below (hb.mono h.hD), by have := hb.size; have := h.hD; omega, h.bel.trans (hb.mono h.bel.size)⟩
theorem BxC.cells (h : BxC w W pb lb D Ac cc Ab cb p Al cl As cs l) : W.cell? ⟨pb, 0, none⟩ = some (.slice Ac p.chs.length cc) ∧ W.cell? ⟨pb, 1, none⟩ = some (.slice Ab p.bts.length cb) ∧ W.cell? ⟨pb, 2, none⟩ = some (.int .i64 p.tugs) ∧ pb < W.heap.size ∧
    W.cell? ⟨lb, 0, none⟩ = some (.int .i64 l.hours) ∧ W.cell? ⟨lb, 1, none⟩ = some (.slice Al l.calls.length cl) ∧ W.cell? ⟨lb, 2, none⟩ = some (.slice As l.swps.length cs) ∧ lb < W.heap.size :=
  ⟨(cell_of_heap h.hp 0).trans rfl, (cell_of_heap h.hp 1).trans rfl, (cell_of_heap h.hp 2).trans rfl, heap_lt h.hp, (cell_of_heap h.hl 0).trans rfl, (cell_of_heap h.hl 1).trans rfl, (cell_of_heap h.hl 2).trans rfl, heap_lt h.hl⟩
theorem BxC.new (PB : PrtB D w Ac cc Ab cb p) (LB : PlnB D w Al cl As cs l) (hD : D ≤ w.heap.size) : BxC w ((w.alloc (.cells (prtV Ac cc Ab cb p) 26)).alloc (.cells (plnV Al cl As cs l) 31)) w.heap.size (w.heap.size + 1) D Ac cc Ab cb p Al cl As cs l := by
  have b : Below w.heap.size w ((w.alloc (.cells (prtV Ac cc Ab cb p) 26)).alloc (.cells (plnV Al cl As cs l) 31)) := ((Below.refl _ _).alloc (Nat.le_refl _) _).alloc (by simp) _
  refine ⟨heap_alloc' (heap_alloc_new _ _) _, ?_, PB.below (b.mono hD), LB.below (b.mono hD), by have := b.size; omega, b⟩
  have := heap_alloc_new (w.alloc (.cells (prtV Ac cc Ab cb p) 26)) (.cells (plnV Al cl As cs l) 31)
  rwa [World.size_alloc] at this
end

set_option maxRecDepth 100000 in
set_option maxHeartbeats 4000000 in
theorem CheckPlan_any (D : Nat) (Ac : Option Addr) (cc : Nat) (Ab : Option Addr) (cb : Nat) (p : Prt) (Al : Option Addr) (cl : Nat) (As : Option Addr) (cs : Nat) (l : Pln) (w : World) (PB : PrtB D w Ac cc Ab cb p) (LB : PlnB D w Al cl As cs l) (hD : D ≤ w.heap.size) :
    Calls Try.prog 52 #[.agg (prtV Ac cc Ab cb p), .agg (plnV Al cl As cs l)] w fun e w' => e = .returned (.int .i64 (checkL p l)) ∧ Below w.heap.size w w' := by
  have B0 := BxC.new PB LB hD
  obtain ⟨W, hW⟩ : ∃ W, W = (w.alloc (.cells (prtV Ac cc Ab cb p) 26)).alloc (.cells (plnV Al cl As cs l) 31) := ⟨_, rfl⟩
  obtain ⟨pb, hpb⟩ : ∃ pb, pb = w.heap.size := ⟨_, rfl⟩
  obtain ⟨lb, hlb⟩ : ∃ lb, lb = w.heap.size + 1 := ⟨_, rfl⟩
  rw [← hW, ← hlb, ← hpb] at B0
  obtain ⟨er, her⟩ : ∃ er, er = checkP p := ⟨_, rfl⟩
  have hck : ∀ X, BxC w X pb lb D Ac cc Ab cb p Al cl As cs l → Calls Try.prog 50 #[.agg (prtV Ac cc Ab cb p)] X fun e w' => e = .returned (.int .i64 er) ∧ Below X.heap.size X w' := fun X h => by rw [her]; exact ptCheck_any D Ac cc Ab cb p X h.PB h.hD
  have hcl1 := LB.c1
  have hcl2 := LB.c2
  have HB := Lib.hid B0
  have HC := Lib.hid (And.intro her hck)
  clear PB LB her hck
  obtain ⟨c0, c1, c2, zp, c3, c4, c5, zl⟩ := B0.cells
  clear B0
  go_enter Try.func52, Try.ntmps52
  go_upto_region 1 with fail
  rw [← hW, ← hlb, ← hpb]
  have hpl : pb ≠ lb := by omega
  clear hW hlb hpb
  by_cases h0 : er = 0
  · have h00 : checkP p = 0 := HC.out.1.symm.trans h0
    subst h0
    have hh0 : Hid (checkP p = 0) := Lib.hid h00
    clear h00
    have hpl2 : pb < W.heap.size ∧ lb < W.heap.size := ⟨zp, zl⟩
    go_upto_region 4 with (go_at_call 50; refine (HC.out.2 W HB.out).mono ?_; rintro e w1 ⟨rfl, b1⟩; have H1 := Lib.hid (HB.out.below b1); clear c0 c1 c2 c3 c4 c5 zp zl b1)
    clear hpl2
    have H1c := H1.out.cells
    obtain ⟨c0, c1, c2, zp, c3, c4, c5, zl⟩ := H1c
    by_cases hmany : 60 < l.calls.length ∨ 200 < l.swps.length
    · have hc := checkL_2 hh0.out hmany
      have HCL := Lib.hid hc
      clear hc
      by_cases h60 : 60 < l.calls.length
      · have q1 : decide ((60 : Int) < (l.calls.length : Int)) = true := by simp; omega
        have q2 : decide (60 < l.calls.length) = true := by simp; omega
        go_wp2_with fail
        go_ret
        exact ⟨by rw [HCL.out]; rfl, H1.out.bel⟩
      · have q1 : decide ((60 : Int) < (l.calls.length : Int)) = false := by simp; omega
        have q2 : decide (60 < l.calls.length) = false := by simp; omega
        have q3 : decide ((200 : Int) < (l.swps.length : Int)) = true := by simp; omega
        have q4 : decide (200 < l.swps.length) = true := by simp; omega
        go_wp2_with fail
        go_ret
        exact ⟨by rw [HCL.out]; rfl, H1.out.bel⟩
    · have q1 : decide ((60 : Int) < (l.calls.length : Int)) = false := by simp; omega
      have q2 : decide (60 < l.calls.length) = false := by simp; omega
      have q3 : decide ((200 : Int) < (l.swps.length : Int)) = false := by simp; omega
      have q4 : decide (200 < l.swps.length) = false := by simp; omega
      have hlen : l.calls.length ≤ 60 ∧ l.swps.length ≤ 200 := by omega
      have HM := Lib.hid hmany
      clear hmany
      cases hw : within l.hours 1 100
      · have hc := checkL_3 hh0.out HM.out hw
        have HCL := Lib.hid hc
        clear hc
        go_wp2_with (go_at_call 80; refine (ptWithin_any _ _ _ _).mono ?_; rintro e w' ⟨rfl, rfl⟩)
        go_ret
        exact ⟨by rw [HCL.out]; rfl, H1.out.bel⟩
      · have hhr : 1 ≤ l.hours ∧ l.hours ≤ 100 := Pt.within_iff.1 hw
        obtain ⟨H, hH⟩ := Int.eq_ofNat_of_zero_le (show 0 ≤ l.hours by omega)
        have HW := Lib.hid (And.intro hw hH)
        clear hH
        obtain ⟨L, hL⟩ : ∃ L, L = l.calls.length := ⟨_, rfl⟩
        rw [← hL] at c4 q1 q2
        have hL60 : L ≤ 60 := by omega
        have HLL := Lib.hid hL
        clear hL
        go_wp2_with (go_at_call 80; refine (ptWithin_any _ _ _ _).mono ?_; rintro e w' ⟨rfl, rfl⟩)
        go_loopg [6, 47] (L) (fun g f i wr => ∃ (k : Nat) (fv : Int), g + k = L ∧ i = .int .i64 k ∧ f = .int .i64 fv ∧ callsE p l.hours 0 l.calls = callsE p l.hours fv (l.calls.drop k) ∧ Below w1.heap.size w1 wr)
        case atStart => exact ⟨0, 0, rfl, rfl, rfl, rfl, Below.refl _ _⟩
        case round =>
          obtain ⟨k, fv, hk, rfl, rfl, hE, hB⟩ := hrel
          by_cases hlt : k < L
          · have hkl : k < l.calls.length := by rw [← HLL.out]; exact hlt
            obtain ⟨b, off, hAl, hbD, hcell⟩ := H1.out.LB.calls.2 (by omega)
            have hcap := H1.out.LB.c1
            obtain ⟨g0, g1, g2, g3, g4, g5⟩ := cacs_get hkl
            obtain ⟨x, hx⟩ : ∃ x, x = l.calls[k] := ⟨_, rfl⟩
            rw [← hx] at g0 g1 g2 g3 g4 g5
            have hbW : b < w1.heap.size := by have := H1.out.hD; omega
            have cw : ∀ {o : Nat} {u : Value}, w1.cell? ⟨b, o, none⟩ = some u → wr.cell? ⟨b, o, none⟩ = some u := fun h => (hB.cell (p := ⟨b, _, none⟩) hbW).trans h
            have d0 := cw (hcell _ _ g0)
            have d1 : wr.cell? ⟨b, off + k * 6 + 1, none⟩ = _ := cw (hcell _ _ g1)
            have d2 : wr.cell? ⟨b, off + k * 6 + 2, none⟩ = _ := cw (hcell _ _ g2)
            have d3 : wr.cell? ⟨b, off + k * 6 + 3, none⟩ = _ := cw (hcell _ _ g3)
            have d4 : wr.cell? ⟨b, off + k * 6 + 4, none⟩ = _ := cw (hcell _ _ g4)
            have d5 : wr.cell? ⟨b, off + k * 6 + 5, none⟩ = _ := cw (hcell _ _ g5)
            have hbl := World.block_lt_of_cell? _ _ d0
            obtain ⟨W2, hW2⟩ : ∃ W2, W2 = wr.alloc (.cells (caV x) 55) := ⟨_, rfl⟩
            obtain ⟨xb, hxb⟩ : ∃ xb, xb = wr.heap.size := ⟨_, rfl⟩
            have hxh : W2.heap[xb]? = some (.cells (caV x) 55 (0, 0)) := by rw [hW2, hxb]; exact heap_alloc_new _ _
            have b2 : Below w1.heap.size w1 W2 := by rw [hW2]; exact hB.alloc hB.size _
            have H2b := H1.out.below b2
            have hS : callsE p l.hours fv (l.calls.drop k) = if callE p l.hours x fv ≠ 0 then callE p l.hours x fv else callsE p l.hours x.hour (l.calls.drop (k + 1)) := by rw [drop_cons' hkl, ← hx, callsE]
            obtain ⟨ce, hce⟩ : ∃ ce, ce = callE p l.hours x fv := ⟨_, rfl⟩
            have kcall := ptCall_any pb Ac cc Ab cb p Al cl As cs l x fv D W2 H2b.hp H2b.PB.bts H2b.hD (by have := (checkP_ok hh0.out).nb; omega) (by omega)
            rw [← hce] at kcall hS
            have HS := Lib.hid (And.intro (hE.trans hS) (And.intro kcall (And.intro H2b (And.intro hxh b2))))
            have zx := heap_lt hxh
            clear hE hB hS kcall H2b hxh b2 cw g0 g1 g2 g3 g4 g5 hcell hbW hx hce c0 c1 c2 zp c3 c5 zl hcap hkl
            subst hAl
            obtain ⟨a0, a1, a2, zp2, a3, a4, a5, zl2⟩ := HS.out.2.2.1.cells
            obtain ⟨ho, be, ou, dr, mo, tg⟩ := x
            have x0 := (cell_of_heap HS.out.2.2.2.1 0).trans rfl
            have x1 := (cell_of_heap HS.out.2.2.2.1 1).trans rfl
            have x2 := (cell_of_heap HS.out.2.2.2.1 2).trans rfl
            have x3 := (cell_of_heap HS.out.2.2.2.1 3).trans rfl
            have x4 := (cell_of_heap HS.out.2.2.2.1 4).trans rfl
            have x5 := (cell_of_heap HS.out.2.2.2.1 5).trans rfl
            go_upto_region 12 with fail
            rw [← hW2, ← hxb]
            clear hW2 hxb d0 d1 d2 d3 d4 d5 hbl
            by_cases hce : ce = 0
            · subst hce
              go_wp2_with (go_at_call 107; refine HS.out.2.1.mono ?_; rintro e w3 ⟨rfl, b3⟩; have y0 := (b3.cell (p := ⟨xb, 0, none⟩) zx).trans x0; have zx3 := Nat.lt_of_lt_of_le zx b3.size; have B3 := Lib.hid (HS.out.2.2.2.2.trans (b3.mono HS.out.2.2.2.2.size)); clear b3 x0 x1 x2 x3 x4 x5 a0 a1 a2 zp2 a3 a4 a5 zl2)
              go_roundg (gk - 1)
              case measure => omega
              case rel => exact ⟨k + 1, ho, by omega, by go_num, rfl, HS.out.1, B3.out⟩
            · have hcn : (ce != 0) = true := by simp [hce]
              have hfin : checkL p l = ce := checkL_4 hh0.out HM.out HW.out.1 (HS.out.1.trans (if_pos hce)) hce
              have HF := Lib.hid hfin
              clear hfin hce
              go_wp2_with (go_at_call 107; refine HS.out.2.1.mono ?_; rintro e w3 ⟨rfl, b3⟩; have B3 := Lib.hid (HS.out.2.2.2.2.trans (b3.mono HS.out.2.2.2.2.size)); clear b3)
              go_ret
              exact ⟨by rw [HF.out]; rfl, H1.out.bel.trans (B3.out.mono H1.out.bel.size)⟩
          · obtain rfl : k = L := by omega
            have hE0 : callsE p l.hours 0 l.calls = 0 := by rw [hE, HLL.out, List.drop_length]; rfl
            have H3 := Lib.hid (And.intro hE0 (H1.out.below hB))
            obtain ⟨w3, rfl⟩ : ∃ w3, w3 = wr := ⟨_, rfl⟩
            obtain ⟨M, hM⟩ : ∃ M, M = l.swps.length := ⟨_, rfl⟩
            have hM200 : M ≤ 200 := by omega
            obtain ⟨g1, rfl⟩ : ∃ g1, g1 = gk := ⟨_, rfl⟩
            clear hE hB hE0 c0 c1 c2 zp c3 c4 c5 zl
            obtain ⟨c0, c1, c2, zp, c3, c4, c5, zl⟩ := H3.out.2.cells
            rw [← hM] at c5
            have HMM := Lib.hid hM
            have hnc := (checkP_ok hh0.out).nc
            clear hM
            go_wp2_with fail
            go_loopg [64] (M) (fun g i wr => ∃ k : Nat, g + k = M ∧ i = .int .i64 k ∧ swpsE p l.hours l.swps = swpsE p l.hours (l.swps.drop k) ∧ Below w3.heap.size w3 wr)
            case atStart => exact ⟨0, rfl, rfl, rfl, Below.refl _ _⟩
            case round =>
              obtain ⟨k, hk, rfl, hE, hB⟩ := hrel
              by_cases hlt : k < M
              · have hkl : k < l.swps.length := by rw [← HMM.out]; exact hlt
                obtain ⟨b, off, hAl, hbD, hcell⟩ := H3.out.2.LB.swps.2 (by omega)
                obtain ⟨g0, g1, g2⟩ := swcs_get hkl
                obtain ⟨x, hx⟩ : ∃ x, x = l.swps[k] := ⟨_, rfl⟩
                rw [← hx] at g0 g1 g2
                have hbW : b < w3.heap.size := by have := H3.out.2.hD; omega
                have cw : ∀ {o : Nat} {u : Value}, w3.cell? ⟨b, o, none⟩ = some u → wr.cell? ⟨b, o, none⟩ = some u := fun h => (hB.cell (p := ⟨b, _, none⟩) hbW).trans h
                have d0 := cw (hcell _ _ g0)
                have d1 : wr.cell? ⟨b, off + k * 3 + 1, none⟩ = _ := cw (hcell _ _ g1)
                have d2 : wr.cell? ⟨b, off + k * 3 + 2, none⟩ = _ := cw (hcell _ _ g2)
                have hbl := World.block_lt_of_cell? _ _ d0
                obtain ⟨e0, e1, e2, zp2, e3, e4, e5, zl2⟩ := (H3.out.2.below hB).cells
                have hS : swpsE p l.hours (l.swps.drop k) = if swpE p l.hours x ≠ 0 then swpE p l.hours x else swpsE p l.hours (l.swps.drop (k + 1)) := by rw [drop_cons' hkl, ← hx, swpsE]
                have HS := Lib.hid (And.intro (hE.trans hS) hB)
                clear hE hB hS cw g0 g1 g2 hcell hbW hx c0 c1 c2 zp c3 c4 c5 zl hkl
                subst hAl
                obtain ⟨ho, cn, tg⟩ := x
                cases k1 : within cn 0 ((p.chs.length : Int) - 1)
                · have he : swpE p l.hours ⟨ho, cn, tg⟩ = 1 := by unfold swpE; rw [k1]; rfl
                  have hfin : checkL p l = 1 := checkL_5 hh0.out HM.out HW.out.1 H3.out.1 (HS.out.1.trans (by rw [he]; rfl)) (by decide)
                  have HF := Lib.hid hfin
                  clear hfin he
                  go_wp2_with (go_at_call 80; refine (ptWithin_any _ _ _ _).mono ?_; rintro e w' ⟨rfl, rfl⟩)
                  go_ret
                  have bb : Below w.heap.size w wr := H3.out.2.bel.trans (HS.out.2.mono H3.out.2.bel.size)
                  exact ⟨by rw [HF.out]; rfl, bb.alloc bb.size _⟩
                cases k2 : within tg 1 20
                · have he : swpE p l.hours ⟨ho, cn, tg⟩ = 1 := by unfold swpE; rw [k1, k2]; rfl
                  have hfin : checkL p l = 1 := checkL_5 hh0.out HM.out HW.out.1 H3.out.1 (HS.out.1.trans (by rw [he]; rfl)) (by decide)
                  have HF := Lib.hid hfin
                  clear hfin he
                  go_wp2_with (go_at_call 80; refine (ptWithin_any _ _ _ _).mono ?_; rintro e w' ⟨rfl, rfl⟩)
                  go_ret
                  have bb : Below w.heap.size w wr := H3.out.2.bel.trans (HS.out.2.mono H3.out.2.bel.size)
                  exact ⟨by rw [HF.out]; rfl, bb.alloc bb.size _⟩
                cases k3 : within ho 0 (l.hours - 1)
                · have he : swpE p l.hours ⟨ho, cn, tg⟩ = 12 := by unfold swpE; rw [k1, k2, k3]; rfl
                  have hfin : checkL p l = 12 := checkL_5 hh0.out HM.out HW.out.1 H3.out.1 (HS.out.1.trans (by rw [he]; rfl)) (by decide)
                  have HF := Lib.hid hfin
                  clear hfin he
                  go_wp2_with (go_at_call 80; refine (ptWithin_any _ _ _ _).mono ?_; rintro e w' ⟨rfl, rfl⟩)
                  go_ret
                  have bb : Below w.heap.size w wr := H3.out.2.bel.trans (HS.out.2.mono H3.out.2.bel.size)
                  exact ⟨by rw [HF.out]; rfl, bb.alloc bb.size _⟩
                · have he : swpE p l.hours ⟨ho, cn, tg⟩ = 0 := by unfold swpE; rw [k1, k2, k3]; rfl
                  have hnx := HS.out.1
                  rw [he] at hnx
                  have HF := Lib.hid hnx
                  clear hnx he
                  go_wp2_with (go_at_call 80; refine (ptWithin_any _ _ _ _).mono ?_; rintro e w' ⟨rfl, rfl⟩)
                  go_roundg (gk - 1)
                  case measure => omega
                  case rel => exact ⟨k + 1, by omega, by go_num, HF.out, HS.out.2.alloc HS.out.2.size _⟩
              · obtain rfl : k = M := by omega
                have hE0 : swpsE p l.hours l.swps = 0 := by rw [hE, HMM.out, List.drop_length]; rfl
                have hH2 := H3.out.2.below hB
                have hfin := checkL_6 hh0.out HM.out HW.out.1 H3.out.1 hE0
                rw [HW.out.2, Int.toNat_natCast] at hfin
                have H4 := Lib.hid (And.intro hE0 (And.intro hH2 hfin))
                clear hE hB hE0 hH2 hfin c0 c1 c2 zp c3 c4 c5 zl
                refine plX2 ?_
                simp only [Exit.inBlock, Exit.then, if_true]
                apply_assumption
                refine plTail (w := w) H4.out.2.1.bel H4.out.2.1.hp H4.out.2.1.hl H4.out.2.1.PB H4.out.2.1.LB H4.out.2.1.hD (checkP_ok hh0.out) HW.out.2 (by have := HW.out.2; omega) hlen (callsE_ok H3.out.1).1 (swpsE_ok H4.out.1) ?_
                intro _ _ _ h
                show bodyPost Try.prog Try.f52 (fun e w' => e = .returned (.int .i64 (checkL p l)) ∧ Below w.heap.size w w') _ _ _
                rw [H4.out.2.2]; exact h
  · have hne : (er != 0) = true := by simp [h0]
    have hc := checkL_1 (l := l) HC.out.1.symm h0
    have HCL := Lib.hid hc
    clear hc h0
    go_wp2_with (go_at_call 50; refine (HC.out.2 W HB.out).mono ?_; rintro e w1 ⟨rfl, b1⟩)
    go_ret
    exact ⟨by rw [HCL.out]; rfl, HB.out.bel.trans (b1.mono HB.out.bel.size)⟩
end Go.Proofs.Ythmldeningpjbaa
/- comparePlaces, slices.CompareFunc of places, asked -/
namespace Go.Proofs.Ythmldeningpjbaa
open Go Go.RowKit Sp Pt
set_option linter.unusedVariables false
set_option linter.unusedSimpArgs false

abbrev plcV (x : Plc) : Value := .agg #[.int .i64 x.berth, .int .i64 x.start]
def plcOk (x : Plc) : Prop := 0 ≤ x.berth ∧ x.berth ≤ 1000000 ∧ 0 ≤ x.start ∧ x.start ≤ 1000000

set_option maxRecDepth 100000 in
set_option maxHeartbeats 4000000 in
theorem cmp1_any (x y : Plc) (w : World) (hx : plcOk x) (hy : plcOk y) :
    Calls Try.prog 131 #[plcV x, plcV y] w fun e w' => e = .returned (.int .i64 (cmp1 x y)) ∧ Below w.heap.size w w' := by
  obtain ⟨xb, xs⟩ := x
  obtain ⟨yb, ys⟩ := y
  obtain ⟨x1, x2, x3, x4⟩ := hx
  obtain ⟨y1, y2, y3, y4⟩ := hy
  simp only [plcV] at *
  obtain ⟨W, hW⟩ : ∃ W, W = (w.alloc (.cells #[.int .i64 xb, .int .i64 xs] 109)).alloc (.cells #[.int .i64 yb, .int .i64 ys] 109) := ⟨_, rfl⟩
  obtain ⟨b1, h1⟩ : ∃ b, b = w.heap.size := ⟨_, rfl⟩
  obtain ⟨b2, h2⟩ : ∃ b, b = w.heap.size + 1 := ⟨_, rfl⟩
  have g1 : W.heap[b1]? = some (.cells #[.int .i64 xb, .int .i64 xs] 109 (0, 0)) := by rw [hW, h1]; exact heap_alloc' (heap_alloc_new _ _) _
  have g2 : W.heap[b2]? = some (.cells #[.int .i64 yb, .int .i64 ys] 109 (0, 0)) := by
    rw [hW, h2]
    have := heap_alloc_new (w.alloc (.cells #[.int .i64 xb, .int .i64 xs] 109)) (.cells #[.int .i64 yb, .int .i64 ys] 109)
    rwa [World.size_alloc] at this
  have b0 : Below w.heap.size w W := by rw [hW]; exact ((Below.refl _ _).alloc (Nat.le_refl _) _).alloc (by simp) _
  have c0 : W.cell? ⟨b1, 0, none⟩ = some (.int .i64 xb) := (cell_of_heap g1 0).trans rfl
  have c1 : W.cell? ⟨b1, 1, none⟩ = some (.int .i64 xs) := (cell_of_heap g1 1).trans rfl
  have c2 : W.cell? ⟨b2, 0, none⟩ = some (.int .i64 yb) := (cell_of_heap g2 0).trans rfl
  have c3 : W.cell? ⟨b2, 1, none⟩ = some (.int .i64 ys) := (cell_of_heap g2 1).trans rfl
  have z1 := heap_lt g1
  have z2 := heap_lt g2
  have H := Lib.hid b0
  clear g1 g2 b0
  go_enter Try.func131, Try.ntmps131
  go_upto_region 1 with fail
  rw [← hW, ← h2, ← h1]
  clear hW h1 h2
  by_cases e : xb = yb
  · have eb : (xb != yb) = false := by simp [e]
    have HE := Lib.hid e
    clear e
    go_wp2_with fail
    go_ret
    exact ⟨by rw [show cmp1 ⟨xb, xs⟩ ⟨yb, ys⟩ = xs - ys from if_neg (by simpa using HE.out)]; rfl, H.out⟩
  · have eb : (xb != yb) = true := by simp [e]
    have HE := Lib.hid e
    clear e
    go_wp2_with fail
    go_ret
    exact ⟨by rw [show cmp1 ⟨xb, xs⟩ ⟨yb, ys⟩ = xb - yb from if_pos (by simpa using HE.out)]; rfl, H.out⟩

theorem cmp1_bd {x y : Plc} (hx : plcOk x) (hy : plcOk y) : -1000000 ≤ cmp1 x y ∧ cmp1 x y ≤ 1000000 := by
  obtain ⟨x1, x2, x3, x4⟩ := hx
  obtain ⟨y1, y2, y3, y4⟩ := hy
  unfold cmp1
  split <;> omega

set_option maxRecDepth 100000 in
set_option maxHeartbeats 4000000 in
theorem cmpPl_any (A : Option Addr) (ca : Nat) (L : List Plc) (B : Option Addr) (cb : Nat) (M : List Plc) (w : World) (hL : Rd w 2 A L.length (plcs L)) (hM : Rd w 2 B M.length (plcs M)) (oL : ∀ x ∈ L, plcOk x) (oM : ∀ x ∈ M, plcOk x)
    (hl : L.length ≤ 1000) (hm : M.length ≤ 1000) :
    Calls Try.prog 130 #[.slice A L.length ca, .slice B M.length cb, .func (.func 131) #[] #[]] w fun e w' => e = .returned (.int .i64 (cmpPl L M)) ∧ Below w.heap.size w w' := by
  have H := Lib.hid (And.intro hL (And.intro hM (And.intro oL oM)))
  clear hL hM oL oM
  obtain ⟨n, hn⟩ : ∃ n, n = L.length := ⟨_, rfl⟩
  obtain ⟨m, hme⟩ : ∃ m, m = M.length := ⟨_, rfl⟩
  rw [← hn, ← hme]
  rw [← hn] at hl
  rw [← hme] at hm
  have HN := Lib.hid (And.intro hn hme)
  clear hn hme
  go_enter Try.func130, Try.ntmps130
  go_wp2_with fail
  go_loopg [13] (n) (fun g i wr => ∃ k : Nat, g + k = n ∧ i = .int .i64 k ∧ k ≤ m ∧ cmpPl L M = cmpPl (L.drop k) (M.drop k) ∧ Keep [] w wr)
  case atStart => exact ⟨0, rfl, rfl, Nat.zero_le _, rfl, Keep.refl _ _⟩
  case round =>
    obtain ⟨k, hk, rfl, hkm, hc, hK⟩ := hrel
    by_cases hlt : k < n
    · have hkL : k < L.length := by rw [← HN.out.1]; exact hlt
      have hdL : L.drop k = L[k] :: L.drop (k + 1) := List.drop_eq_getElem_cons hkL
      obtain ⟨b, off, rfl, hb, hcl⟩ := (hK.rd H.out.1 (by simp)).2 (by omega)
      obtain ⟨p0, p1⟩ := plcs_get hkL
      obtain ⟨x, hx⟩ : ∃ x, x = L[k] := ⟨_, rfl⟩
      have ox : plcOk x := H.out.2.2.1 x (by rw [hx]; exact List.getElem_mem _)
      rw [← hx] at p0 p1 hdL
      have d0 := hcl _ _ p0
      have d1 : wr.cell? ⟨b, off + k * 2 + 1, none⟩ = _ := hcl _ _ p1
      by_cases hltm : k < m
      · have hkM : k < M.length := by rw [← HN.out.2]; exact hltm
        have hdM : M.drop k = M[k] :: M.drop (k + 1) := List.drop_eq_getElem_cons hkM
        obtain ⟨b', off', rfl, hb', hcm⟩ := (hK.rd H.out.2.1 (by simp)).2 (by omega)
        obtain ⟨q0, q1⟩ := plcs_get hkM
        obtain ⟨y, hy⟩ : ∃ y, y = M[k] := ⟨_, rfl⟩
        have oy : plcOk y := H.out.2.2.2 y (by rw [hy]; exact List.getElem_mem _)
        rw [← hy] at q0 q1 hdM
        have e0 := hcm _ _ q0
        have e1 : wr.cell? ⟨b', off' + k * 2 + 1, none⟩ = _ := hcm _ _ q1
        have kc := fun wx => cmp1_any x y wx ox oy
        have hS : cmpPl L M = if cmp1 x y ≠ 0 then cmp1 x y else cmpPl (L.drop (k + 1)) (M.drop (k + 1)) := by rw [hc, hdL, hdM]; rfl
        obtain ⟨r, hr⟩ : ∃ r, r = cmp1 x y := ⟨_, rfl⟩
        simp only [← hr] at kc hS
        obtain ⟨xb, xs⟩ := x
        obtain ⟨yb, ys⟩ := y
        simp only at d0 d1 e0 e1
        have HI := Lib.hid (And.intro hS (And.intro hK kc))
        clear hS hK kc hc hcl hcm p0 p1 q0 q1 ox oy hdL hdM hx hy hr
        by_cases hr0 : r = 0
        · subst hr0
          go_wp2_with (go_at_call 131; refine (HI.out.2.2 _).mono ?_; rintro e w2 ⟨rfl, b2⟩; have B2 := Lib.hid b2; clear b2)
          go_roundg (gk - 1)
          case measure => omega
          case rel => exact ⟨k + 1, by omega, by go_num, by omega, by rw [HI.out.1]; rfl, ((HI.out.2.1.alloc _).alloc _).trans (Keep.of_below (S := []) B2.out) (by simp)⟩
        · have hrb : (r != 0) = true := by simp [hr0]
          go_wp2_with (go_at_call 131; refine (HI.out.2.2 _).mono ?_; rintro e w2 ⟨rfl, b2⟩; have B2 := Lib.hid b2; clear b2)
          go_ret
          exact ⟨by rw [HI.out.1, if_pos (by assumption)]; rfl, (((HI.out.2.1.alloc _).alloc _).trans (Keep.of_below (S := []) B2.out) (by simp)).below (Nat.le_refl _) (by simp)⟩
      · obtain rfl : k = m := by omega
        have hdM : M.drop k = [] := List.drop_eq_nil_of_le (by rw [← HN.out.2]; omega)
        have hS : cmpPl L M = 1 := by rw [hc, hdL, hdM]; rfl
        obtain ⟨xb, xs⟩ := x
        simp only at d0 d1
        have HI := Lib.hid (And.intro hS hK)
        clear hS hK hc hcl p0 p1 ox hdL hdM hx
        go_wp2_with fail
        go_ret
        exact ⟨by rw [HI.out.1]; rfl, (HI.out.2.alloc _).below (Nat.le_refl _) (by simp)⟩
    · obtain rfl : k = n := by omega
      have hdL : L.drop k = [] := List.drop_eq_nil_of_le (by rw [← HN.out.1]; omega)
      by_cases hltm : k < m
      · have hkM : k < M.length := by rw [← HN.out.2]; exact hltm
        have hdM : M.drop k = M[k] :: M.drop (k + 1) := List.drop_eq_getElem_cons hkM
        have hS : cmpPl L M = -1 := by rw [hc, hdL, hdM]; rfl
        have HI := Lib.hid (And.intro hS hK)
        clear hS hK hc hdL hdM
        go_wp2_with fail
        go_ret
        exact ⟨by rw [HI.out.1]; rfl, HI.out.2.below (Nat.le_refl _) (by simp)⟩
      · have hdM : M.drop k = [] := List.drop_eq_nil_of_le (by rw [← HN.out.2]; omega)
        have hS : cmpPl L M = 0 := by rw [hc, hdL, hdM]; rfl
        have HI := Lib.hid (And.intro hS hK)
        clear hS hK hc hdL hdM
        go_wp2_with fail
        go_ret
        exact ⟨by rw [HI.out.1]; rfl, HI.out.2.below (Nat.le_refl _) (by simp)⟩

theorem asked_bad {p : Prt} {l : List Vst} (hc : checkP p = 0) (hl : l.length ≤ 5) {k : Nat} (hk : k < l.length) (h : vstOk l[k] = false) : askedE p l = 1 := by
  have : l.all vstOk = false := by
    cases q : l.all vstOk with
    | false => rfl
    | true => rw [List.all_eq_true.1 q _ (List.getElem_mem hk)] at h; cases h
  unfold askedE
  rw [if_neg (by rw [hc]; decide), if_neg (by omega), if_pos this]

set_option maxRecDepth 100000 in
set_option maxHeartbeats 4000000 in
theorem asked_any (D : Nat) (Ac : Option Addr) (cc : Nat) (Ab : Option Addr) (cb : Nat) (p : Prt) (A : Option Addr) (c : Nat) (l : List Vst) (w : World) (PB : PrtB D w Ac cc Ab cb p) (hr : Rd w 4 A l.length (vscs l)) (hD : D ≤ w.heap.size) :
    Calls Try.prog 104 #[.agg (prtV Ac cc Ab cb p), .slice A l.length c] w fun e w' => e = .returned (.int .i64 (askedE p l)) ∧ Below w.heap.size w w' := by
  obtain ⟨W, hW⟩ : ∃ W, W = w.alloc (.cells (prtV Ac cc Ab cb p) 26) := ⟨_, rfl⟩
  obtain ⟨pb, hpb⟩ : ∃ b, b = w.heap.size := ⟨_, rfl⟩
  have hh : W.heap[pb]? = some (.cells (prtV Ac cc Ab cb p) 26 (0, 0)) := by rw [hW, hpb]; exact heap_alloc_new _ _
  have b0 : Below w.heap.size w W := by rw [hW]; exact (Below.refl _ _).alloc (Nat.le_refl _) _
  have c0 : W.cell? ⟨pb, 0, none⟩ = some (.slice Ac p.chs.length cc) := (cell_of_heap hh 0).trans rfl
  have c1 : W.cell? ⟨pb, 1, none⟩ = some (.slice Ab p.bts.length cb) := (cell_of_heap hh 1).trans rfl
  have c2 : W.cell? ⟨pb, 2, none⟩ = some (.int .i64 p.tugs) := (cell_of_heap hh 2).trans rfl
  have zp := heap_lt hh
  obtain ⟨er, her⟩ : ∃ er, er = checkP p := ⟨_, rfl⟩
  have kc := ptCheck_any D Ac cc Ab cb p W (PB.below (b0.mono hD)) (by have := b0.size; omega)
  rw [← her] at kc
  have H := Lib.hid (And.intro b0 (And.intro her (And.intro kc hr)))
  clear hh b0 kc her hr PB
  go_enter Try.func104, Try.ntmps104
  go_upto_region 1 with fail
  rw [← hW, ← hpb]
  clear hW hpb
  by_cases h0 : er = 0
  · subst h0
    by_cases hl : l.length ≤ 5
    · go_upto_region 4 with (go_at_call 50; refine H.out.2.2.1.mono ?_; rintro e w1 ⟨rfl, b1⟩; have B1 := Lib.hid (And.intro (H.out.1.trans (b1.mono H.out.1.size)) (H.out.2.2.2.below (H.out.1.trans (b1.mono H.out.1.size)))); clear b1)
      clear c0 c1 c2 zp
      go_wp2_with fail
      go_loopg [18] (l.length) (fun g i wr => ∃ k : Nat, g + k = l.length ∧ i = .int .i64 k ∧ (l.take k).all vstOk = true ∧ Keep [] w1 wr)
      case atStart => exact ⟨0, rfl, rfl, by simp, Keep.refl _ _⟩
      case round =>
        obtain ⟨k, hk, rfl, hok, hK⟩ := hrel
        by_cases hlt : k < l.length
        · obtain ⟨b, off, rfl, hb, hcl⟩ := (hK.rd B1.out.2 (by simp)).2 (by omega)
          obtain ⟨p0, p1, p2, p3⟩ := vscs_get hlt
          obtain ⟨x, hx⟩ : ∃ x, x = l[k] := ⟨_, rfl⟩
          rw [← hx] at p0 p1 p2 p3
          have d0 := hcl _ _ p0
          have d1 : wr.cell? ⟨b, off + k * 4 + 1, none⟩ = _ := hcl _ _ p1
          have d2 : wr.cell? ⟨b, off + k * 4 + 2, none⟩ = _ := hcl _ _ p2
          have d3 : wr.cell? ⟨b, off + k * 4 + 3, none⟩ = _ := hcl _ _ p3
          obtain ⟨ar, la, st, dr⟩ := x
          simp only at d0 d1 d2 d3
          have hvk : vstOk l[k] = (within ar 0 1000 && (within la ar 2000 && (within st 1 100 && within dr 10 3000))) := by rw [← hx]; rfl
          have hbad := fun h => asked_bad (p := p) H.out.2.1.symm hl hlt h
          have HI := Lib.hid (And.intro hvk (And.intro hok (And.intro hK hbad)))
          clear hvk hok hK hcl p0 p1 p2 p3 hx hbad
          cases w1' : within ar 0 1000
          · go_wp2_with (go_at_call 80; refine (ptWithin_any _ _ _ _).mono ?_; rintro e w' ⟨rfl, rfl⟩)
            go_ret
            exact ⟨by rw [HI.out.2.2.2 (by rw [HI.out.1]; simp_all)]; rfl, B1.out.1.trans ((HI.out.2.2.1.alloc _).below B1.out.1.size (by simp))⟩
          · cases w2' : within la ar 2000
            · go_wp2_with (go_at_call 80; refine (ptWithin_any _ _ _ _).mono ?_; rintro e w' ⟨rfl, rfl⟩)
              go_ret
              exact ⟨by rw [HI.out.2.2.2 (by rw [HI.out.1]; simp_all)]; rfl, B1.out.1.trans ((HI.out.2.2.1.alloc _).below B1.out.1.size (by simp))⟩
            · cases w3' : within st 1 100
              · go_wp2_with (go_at_call 80; refine (ptWithin_any _ _ _ _).mono ?_; rintro e w' ⟨rfl, rfl⟩)
                go_ret
                exact ⟨by rw [HI.out.2.2.2 (by rw [HI.out.1]; simp_all)]; rfl, B1.out.1.trans ((HI.out.2.2.1.alloc _).below B1.out.1.size (by simp))⟩
              · cases w4' : within dr 10 3000
                · go_wp2_with (go_at_call 80; refine (ptWithin_any _ _ _ _).mono ?_; rintro e w' ⟨rfl, rfl⟩)
                  go_ret
                  exact ⟨by rw [HI.out.2.2.2 (by rw [HI.out.1]; simp_all)]; rfl, B1.out.1.trans ((HI.out.2.2.1.alloc _).below B1.out.1.size (by simp))⟩
                · go_wp2_with (go_at_call 80; refine (ptWithin_any _ _ _ _).mono ?_; rintro e w' ⟨rfl, rfl⟩)
                  go_roundg (gk - 1)
                  case measure => omega
                  case rel => exact ⟨k + 1, by omega, by go_num, all_take_succ hlt HI.out.2.1 (by rw [HI.out.1]; simp_all), HI.out.2.2.1.alloc _⟩
        · obtain rfl : k = l.length := by omega
          rw [List.take_length] at hok
          have HL := Lib.hid (And.intro hok hK)
          clear hok hK
          go_wp2_with fail
          go_ret
          exact ⟨by rw [show askedE p l = 0 by unfold askedE; rw [if_neg (by rw [← H.out.2.1]; decide), if_neg (by omega), if_neg (by rw [HL.out.1]; decide)]]; rfl, B1.out.1.trans (HL.out.2.below B1.out.1.size (by simp))⟩
    · have hlb : (5 : Int) < (l.length : Int) := by omega
      go_wp2_with (go_at_call 50; refine H.out.2.2.1.mono ?_; rintro e w1 ⟨rfl, b1⟩; have B1 := Lib.hid (H.out.1.trans (b1.mono H.out.1.size)); clear b1)
      go_ret
      exact ⟨by rw [show askedE p l = 2 by unfold askedE; rw [if_neg (by rw [← H.out.2.1]; decide), if_pos (by omega)]]; rfl, B1.out⟩
  · have hrb : (er != 0) = true := by simp [h0]
    have HC := Lib.hid h0
    clear h0
    go_wp2_with (go_at_call 50; refine H.out.2.2.1.mono ?_; rintro e w1 ⟨rfl, b1⟩; have B1 := Lib.hid (H.out.1.trans (b1.mono H.out.1.size)); clear b1)
    go_ret
    exact ⟨by rw [show askedE p l = er by unfold askedE; rw [← H.out.2.1, if_pos HC.out]]; rfl, B1.out⟩
end Go.Proofs.Ythmldeningpjbaa
