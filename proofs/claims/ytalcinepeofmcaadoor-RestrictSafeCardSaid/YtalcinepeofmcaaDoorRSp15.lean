/- hull: Speeds, Beset, of any cell (printed by wip/tools/hull14.py) -/
import Derived.Test.YtalcinepeofmcaaDoorRSp14
import Derived.Test.YtalcinepeofmcaaDoorRSp10
import Derived.Test.YtalcinepeofmcaaDoorRSp13
set_option linter.unusedVariables false
set_option linter.unusedSimpArgs false
namespace Go.Proofs.YtalcinepeofmcaaDoor
open Go Go.RowKit Go.Shelf Go.Proofs Sp Hu
attribute [local go_sem] Oper.semAt_some
set_option linter.unusedVariables false
set_option linter.unusedSimpArgs false

theorem ic_lo {x : Cel} (h : celOk x = true) : IcOk (loI x) := by
  simp only [celOk, spanOk, within, Bool.and_eq_true, decide_eq_true_eq] at h
  exact ⟨by simp only [loI]; omega, by simp only [loI]; omega, by simp only [loI]; omega, by simp only [loI]; omega⟩
theorem ic_hi {x : Cel} (h : celOk x = true) : IcOk (hiI x) := by
  simp only [celOk, spanOk, within, Bool.and_eq_true, decide_eq_true_eq] at h
  exact ⟨by simp only [hiI]; omega, by simp only [hiI]; omega, by simp only [hiI]; omega, by simp only [hiI]; omega⟩
theorem endsL_mem {x : Cel} {y : Ic} (h : y ∈ endsL x) : y = loI x ∨ y = hiI x := by
  unfold endsL at h
  split at h
  · simpa using h
  · simp at h; exact .inl h
theorem endsL_ok {x : Cel} (h : celOk x = true) {y : Ic} (hy : y ∈ endsL x) : IcOk y := by
  rcases endsL_mem hy with rfl | rfl
  · exact ic_lo h
  · exact ic_hi h
def slowI (s : Shp) (ch : Bool) (i : Ic) : Bool := !makes s i ch 10
/-- the two ends so far -/
def Sp2G (s : Shp) (ch : Bool) (pre : List Ic) (lo hi : Int) : Prop :=
  (0 ≤ lo ∧ lo ≤ 250 ∧ 0 ≤ hi ∧ hi ≤ 250) ∧ decide (lo < 10) = pre.any (slowI s ch) ∧ decide (hi < 10) = pre.all (slowI s ch)
theorem sp2G_snoc {s : Shp} {ch : Bool} {pre : List Ic} {x : Ic} {lo hi v a' b' : Int} (h : Sp2G s ch pre lo hi) (hv : 0 ≤ v ∧ v ≤ 250) (hq : v < 10 ↔ makes s x ch 10 = false) (ha : a' = if v < lo then v else lo) (hb : b' = if hi < v then v else hi) : Sp2G s ch (pre ++ [x]) a' b' := by
  subst ha; subst hb
  obtain ⟨h1, h2, h3⟩ := h
  have e : slowI s ch x = decide (v < 10) := by
    unfold slowI
    cases hm : makes s x ch 10
    · rw [hm] at hq; rw [decide_eq_true (hq.2 rfl)]; rfl
    · rw [hm] at hq; rw [decide_eq_false (fun q => by have := hq.1 q; cases this)]; rfl
  refine ⟨by split <;> split <;> omega, ?_, ?_⟩
  · rw [List.any_append, ← h2, List.any_cons, List.any_nil, Bool.or_false, e, ← Bool.decide_or]
    exact decide_eq_decide.2 (by split <;> omega)
  · rw [List.all_append, ← h3, List.all_cons, List.all_nil, Bool.and_true, e, ← Bool.decide_and]
    exact decide_eq_decide.2 (by split <;> omega)
def Sp2E (s : Shp) (x : Cel) (ch : Bool) (pre : List (EndI x)) (lo hi : Int) : Prop := Sp2G s ch (pre.map EndI.v) lo hi
theorem sp2E_snoc {s : Shp} {x : Cel} {ch : Bool} {pre : List (EndI x)} {y : EndI x} {lo hi v a' b' : Int} (h : Sp2E s x ch pre lo hi) (hv : 0 ≤ v ∧ v ≤ 250) (hq : v < 10 ↔ makes s y.v ch 10 = false) (ha : a' = if v < lo then v else lo) (hb : b' = if hi < v then v else hi) : Sp2E s x ch (pre ++ [y]) a' b' := by
  unfold Sp2E
  rw [List.map_append]
  exact sp2G_snoc h hv hq ha hb
def Sps2Post (s : Shp) (x : Cel) (ch : Bool) (w : World) (e : Ending) (w' : World) : Prop :=
  ∃ lo hi : Int, e = .returned (.tuple #[.agg #[.int .i64 lo, .int .i64 hi], .int .i64 0]) ∧ decide (lo < 10) = (endsL x).any (slowI s ch) ∧ decide (hi < 10) = (endsL x).all (slowI s ch) ∧ Below w.heap.size w w'

set_option maxRecDepth 100000 in
set_option maxHeartbeats 4000000 in
theorem speeds2_any (At : Option Addr) (ct : Nat) (Aw : Option Addr) (cw : Nat) (Ai : Option Addr) (ci : Nat) (s : Shp) (x : Cel) (ch : Bool) (w : World) (R : ShR At Aw Ai s w) (h0 : shipE s = 0) (hi : celOk x = true) :
    Calls Tryd.prog 44 #[.agg (shpV At ct Aw cw Ai ci s), .agg (celA x), .bool ch] w (Sps2Post s x ch w) := by
  obtain ⟨W, hW⟩ : ∃ W, W = (((w.alloc (.cells (shpV At ct Aw cw Ai ci s) 25)).alloc (.cells (celA x) 30)).alloc (.cells #[.bool ch] 4)).alloc (.cells #[.int .i64 0, .int .i64 0] 28) := ⟨_, rfl⟩
  obtain ⟨sb, hsb⟩ : ∃ b, b = w.heap.size := ⟨_, rfl⟩
  obtain ⟨cb, hcb⟩ : ∃ b, b = w.heap.size + 1 := ⟨_, rfl⟩
  obtain ⟨hb, hhb⟩ : ∃ b, b = w.heap.size + 1 + 1 := ⟨_, rfl⟩
  obtain ⟨rb, hrb⟩ : ∃ b, b = w.heap.size + 1 + 1 + 1 := ⟨_, rfl⟩
  have O : Own w.heap.size w [.blk sb (.cells (shpV At ct Aw cw Ai ci s) 25), .blk cb (.cells (celA x) 30), .blk hb (.cells #[.bool ch] 4), .blk rb (.cells #[.int .i64 0, .int .i64 0] 28)] W := by
    have h := ((((Own.start w).alloc (.cells (shpV At ct Aw cw Ai ci s) 25)).alloc (.cells (celA x) 30)).alloc (.cells #[.bool ch] 4)).alloc (.cells #[.int .i64 0, .int .i64 0] 28)
    rw [hW, hsb, hcb, hhb, hrb]; simpa using h
  have RX := R.below O.bel
  have km := met_any At ct Aw cw Ai ci s x W RX
  have hE : metE s x = 0 := by unfold metE; rw [if_neg (by simpa using h0)]; unfold celE; rw [if_pos hi]
  rw [hE] at km
  have sok := shipE_ok h0
  have L0 : ShL s := ⟨sok.1, sok.2.2.2.2.2.1, sok.2.2.2.2.2.2.1, sok.2.2.2.2.2.2.2.1, sok.2.2.1⟩
  have hge : w.heap.size ≤ sb ∧ w.heap.size ≤ cb ∧ w.heap.size ≤ hb ∧ w.heap.size ≤ rb := by omega
  have HM := Lib.hid (And.intro km (And.intro O (And.intro R (And.intro sok (And.intro L0 hi)))))
  have s_ := O.heap 0 rfl
  have c_ := O.heap 1 rfl
  have s0 : W.cell? ⟨sb, 0, none⟩ = some _ := (cell_of_heap s_ 0).trans rfl
  have s1 : W.cell? ⟨sb, 1, none⟩ = some _ := (cell_of_heap s_ 1).trans rfl
  have s2 : W.cell? ⟨sb, 2, none⟩ = some _ := (cell_of_heap s_ 2).trans rfl
  have s3 : W.cell? ⟨sb, 3, none⟩ = some _ := (cell_of_heap s_ 3).trans rfl
  have s4 : W.cell? ⟨sb, 4, none⟩ = some _ := (cell_of_heap s_ 4).trans rfl
  have s5 : W.cell? ⟨sb, 5, none⟩ = some _ := (cell_of_heap s_ 5).trans rfl
  have s6 : W.cell? ⟨sb, 6, none⟩ = some _ := (cell_of_heap s_ 6).trans rfl
  have s7 : W.cell? ⟨sb, 7, none⟩ = some _ := (cell_of_heap s_ 7).trans rfl
  have s8 : W.cell? ⟨sb, 8, none⟩ = some _ := (cell_of_heap s_ 8).trans rfl
  have s9 : W.cell? ⟨sb, 9, none⟩ = some _ := (cell_of_heap s_ 9).trans rfl
  have s10 : W.cell? ⟨sb, 10, none⟩ = some _ := (cell_of_heap s_ 10).trans rfl
  have k0 : W.cell? ⟨cb, 0, none⟩ = some _ := (cell_of_heap c_ 0).trans rfl
  have k1 : W.cell? ⟨cb, 1, none⟩ = some _ := (cell_of_heap c_ 1).trans rfl
  have k2 : W.cell? ⟨cb, 2, none⟩ = some _ := (cell_of_heap c_ 2).trans rfl
  have k3 : W.cell? ⟨cb, 3, none⟩ = some _ := (cell_of_heap c_ 3).trans rfl
  have k4 : W.cell? ⟨cb, 4, none⟩ = some _ := (cell_of_heap c_ 4).trans rfl
  have k5 : W.cell? ⟨cb, 5, none⟩ = some _ := (cell_of_heap c_ 5).trans rfl
  have k6 : W.cell? ⟨cb, 6, none⟩ = some _ := (cell_of_heap c_ 6).trans rfl
  have k7 : W.cell? ⟨cb, 7, none⟩ = some _ := (cell_of_heap c_ 7).trans rfl
  have zs := heap_lt s_
  have zc := heap_lt c_
  clear O RX km hE h0 sok L0 s_ c_
  refine (callsIn_wide (n := 9)).1 ?_
  refine callsIn_of_wp_marks Tryd.func44 rfl trivial ?_ rfl
  simp only [Tryd.ntmps44, List.size_toArray, List.length_cons, List.length_nil, Nat.reduceAdd, Nat.reduceSub, Array.replicate_succ, Array.replicate_zero, List.push_toArray, List.append_toArray, List.nil_append, List.cons_append]
  gi_upto_region 1 with fail
  rw [← hW, ← hrb, ← hhb, ← hcb, ← hsb]
  clear hW hrb hhb hcb hsb
  gi_upto_region 2 with (refine ⟨trivial, ?_⟩; gi_at_call 24; refine (callsIn_wide.2 HM.out.1).mono ?_; rintro e w1 ⟨rfl, b1⟩; have H1 := Lib.hid b1; clear b1 s0 s1 s2 s3 s4 s5 s6 s7 s8 s9 s10 k0 k1 k2 k3 k4 k5 k6 k7 zs zc)
  gi_upto_region 5 with fail
  obtain ⟨ob, hob⟩ : ∃ b, b = w1.heap.size := ⟨_, rfl⟩
  obtain ⟨W2, hW2⟩ : ∃ W2, W2 = w1.alloc (.cells #[.int .i64 250, .int .i64 0] 28) := ⟨_, rfl⟩
  have O2 : Own w.heap.size w [.blk sb (.cells (shpV At ct Aw cw Ai ci s) 25), .blk cb (.cells (celA x) 30), .blk hb (.cells #[.bool ch] 4), .blk rb (.cells #[.int .i64 0, .int .i64 0] 28), .blk ob (.cells #[.int .i64 250, .int .i64 0] 28)] W2 := by
    have h := (HM.out.2.1.below H1.out).alloc (.cells #[.int .i64 250, .int .i64 0] 28)
    rw [hW2, hob]; exact h
  have c_ := O2.heap 1 rfl
  have k0 : W2.cell? ⟨cb, 0, none⟩ = some _ := (cell_of_heap c_ 0).trans rfl
  have k1 : W2.cell? ⟨cb, 1, none⟩ = some _ := (cell_of_heap c_ 1).trans rfl
  have k2 : W2.cell? ⟨cb, 2, none⟩ = some _ := (cell_of_heap c_ 2).trans rfl
  have k3 : W2.cell? ⟨cb, 3, none⟩ = some _ := (cell_of_heap c_ 3).trans rfl
  have k4 : W2.cell? ⟨cb, 4, none⟩ = some _ := (cell_of_heap c_ 4).trans rfl
  have k5 : W2.cell? ⟨cb, 5, none⟩ = some _ := (cell_of_heap c_ 5).trans rfl
  have k6 : W2.cell? ⟨cb, 6, none⟩ = some _ := (cell_of_heap c_ 6).trans rfl
  have k7 : W2.cell? ⟨cb, 7, none⟩ = some _ := (cell_of_heap c_ 7).trans rfl
  have zc := heap_lt c_
  have H2 := Lib.hid O2
  clear O2 c_
  rw [← hW2, ← hob]
  have hlt : rb < ob ∧ sb < ob ∧ hb < ob := by
    have h := HM.out.2.1.below H1.out
    have h1 := heap_lt (h.heap 3 rfl)
    have h2 := heap_lt (h.heap 0 rfl)
    have h3 := heap_lt (h.heap 2 rfl)
    omega
  clear hW2 hob
  have ke := huends2_any x W2
  gi_wp2_with (refine ⟨trivial, ?_⟩; gi_at_call 26; refine (callsIn_wide.2 ke).mono ?_; rintro e w3 ⟨xb, rfl, hx1, hx2, b3⟩; have H3 := Lib.hid (And.intro hx1 (And.intro hx2 b3)); clear hx1 hx2 b3 k0 k1 k2 k3 k4 k5 k6 k7 zc ke)
  have hbw : Below w.heap.size w w3 := H2.out.bel.trans (H3.out.2.2.mono H2.out.bel.size)
  have O3 := H2.out.below H3.out.2.2
  have rs := O3.heap 0 rfl
  have rh := O3.heap 2 rfl
  have rr := O3.heap 3 rfl
  have ro := O3.heap 4 rfl
  have hbs := hbw.size
  have H4 := Lib.hid (And.intro hbw (And.intro rs (And.intro rh (And.intro rr ro))))
  have HR := Lib.hid (And.intro R hi)
  have hgo : w.heap.size ≤ ob := by omega
  have hsz : ∀ W : World, Below w.heap.size w W → w.heap.size ≤ W.heap.size := fun W h => h.size
  clear O3 R hi
  refine wpIn_rangeFunc_ownH rfl (by omega) (gf := 52) (lb := #[.pointer (some ⟨xb, 0, none⟩)]) rfl trivial (enters_of Tryd.func52 (by kernel_rfl) rfl)
    (ends2_stops x xb (freeSp w.heap.size) (fun cs fr h => by obtain ⟨_, cs', fr', e⟩ := h; injection e with _ e _; exact absurd e (by decide)) w3 H3.out.2.1 _ (by omega))
    (fun h h' => h.trans h') (fun W l o o' _ hl ho _ => KpH.putObj hl ho o') (Below.refl _ _) (fun _ => rfl)
    (fun pre W => ((((∃ lo hi : Int, W.heap[ob]? = some (.cells #[.int .i64 lo, .int .i64 hi] 28 (0, 0)) ∧ Sp2E s x ch pre lo hi) ∧ W.heap[rb]? = some (.cells #[.int .i64 0, .int .i64 0] 28 (0, 0))) ∧ W.heap[sb]? = some (.cells (shpV At ct Aw cw Ai ci s) 25 (0, 0))) ∧ W.heap[hb]? = some (.cells #[.bool ch] 4 (0, 0))) ∧ Below w.heap.size w W)
    (fun _ _ _ => False)
    (OwnFrom.and (OwnFrom.and (OwnFrom.and (OwnFrom.and (Go.Own.from (own_sp ob (Sp2E s x ch)) _) (Go.Own.from (ownH_cells rb (fun _ : List (EndI x) => .cells #[.int .i64 0, .int .i64 0] 28 (0, 0)) (fun _ => rfl)) _)) (Go.Own.from (ownH_cells sb (fun _ : List (EndI x) => .cells (shpV At ct Aw cw Ai ci s) 25 (0, 0)) (fun _ => rfl)) _)) (Go.Own.from (ownH_cells hb (fun _ : List (EndI x) => .cells #[.bool ch] 4 (0, 0)) (fun _ => rfl)) _)) (ownFrom_below (Nat.le_refl _) hbs))
    (fun _ _ _ _ _ hs _ _ => hs)
    ⟨⟨⟨⟨⟨250, 0, ro, ⟨by omega, rfl, rfl⟩⟩, rr⟩, rs⟩, rh⟩, hbw⟩
    (fun y a' W => ∃ Bx, w.heap.size ≤ Bx ∧ W.heap[Bx]? = some (.cells (icV y.v) 45 (0, 0)) ∧
      a' = { tmps := #[.agg (shpV At ct Aw cw Ai ci s), .agg (celA x), .bool ch, .pointer (some ⟨sb, 0, none⟩), .pointer (some ⟨cb, 0, none⟩), .pointer (some ⟨hb, 0, none⟩), .pointer (some ⟨rb, 0, none⟩), .int .i64 0, .int .i64 0, .pointer (some ⟨ob, 0, none⟩), .pointer (some ⟨Bx, 0, none⟩), undef,
        .agg (shpV At ct Aw cw Ai ci s), .agg (celA x), .int .i64 0, .int .i64 0, .bool false, undef, undef, .agg #[.int .i64 250, .int .i64 0], .agg (celA x), .func (.func 52) #[] #[.pointer (some ⟨xb, 0, none⟩)], .agg (icV y.v), undef, undef, undef, undef, undef, undef, undef, undef, undef, undef, undef, undef, undef, undef, undef], defers := [] })
    (fun y a' s X Y row hs hg hrow => by
      obtain ⟨Bx, h1, h2, h3⟩ := hs
      refine ⟨Bx, h1, (hg.block Bx (heap_lt h2) (fun e => ?_)).trans h2, h3⟩
      obtain ⟨_, o, ho, hc⟩ := hrow Bx e.symm
      rw [h2] at ho; cases ho; cases hc)
    ?assign ?body ?done ?stop
  case assign =>
    rintro l pre y W K ⟨⟨⟨⟨⟨lo, hi, ho, hG⟩, hr⟩, hs⟩, hh⟩, hB⟩ hK
    gi_wp2
    exact hK _ _ ((KeepsOthers.alloc _ _).from _) (KpH.alloc _ _) ⟨⟨⟨⟨⟨lo, hi, heap_alloc' ho _, hG⟩, heap_alloc' hr _⟩, heap_alloc' hs _⟩, heap_alloc' hh _⟩, hB.alloc hB.size _⟩ ⟨W.heap.size, hsz W hB, heap_alloc_new W _, rfl⟩
  case body =>
    rintro l pre ⟨i, hiE⟩ a' W hlw ⟨r, hr'⟩ ⟨⟨⟨⟨⟨lo, hi, ho, hG⟩, hr⟩, hs⟩, hh⟩, hB⟩ ⟨Bx, hBx, bX, rfl⟩ hlt
    have hix : IcOk i := endsL_ok HR.out.2 hiE
    have E : ShE ⟨sb, At, ct, Aw, cw, Ai, ci, s⟩ W := ⟨hs, (HR.out.1.below hB).rt, (HR.out.1.below hB).rw_, (HR.out.1.below hB).ri⟩
    have kj := speed_any ⟨sb, At, ct, Aw, cw, Ai, ci, s⟩ i ch W E HM.out.2.2.2.2.1 hix
    have x0 := (cell_of_heap bX 0).trans rfl
    have x1 := (cell_of_heap bX 1).trans rfl
    have x2 := (cell_of_heap bX 2).trans rfl
    have x3 := (cell_of_heap bX 3).trans rfl
    have y0 := (cell_of_heap hh 0).trans rfl
    have zx := heap_lt bX
    have zy := heap_lt hh
    have zs := heap_lt hs
    have hA := Lib.hid (And.intro ho (And.intro hG (And.intro hr (And.intro hs (And.intro hh (And.intro hB bX))))))
    have HJ := Lib.hid kj
    clear ho hG hr hs hh hB bX kj E
    gi_wp2_with (refine ⟨trivial, ?_⟩; gi_at_call 72; refine (CallsIn.inRound l (callsIn_wide.2 HJ.out)).mono ?_; rintro e w2 ⟨v, bv, rfl, hg, b2⟩; have ho2 := (b2.block ob (heap_lt hA.out.1)).trans hA.out.1; have p0 := frozen_of_heap ho2 0; have p1 := frozen_of_heap ho2 1; have zo2 := heap_lt ho2; have c0 := (cell_of_heap ho2 0).trans rfl; have c1 := (cell_of_heap ho2 1).trans rfl; have HB2 := Lib.hid (And.intro b2 (And.intro ho2 hg)); clear b2 ho2 hg)
    all_goals
      obtain ⟨b2, ho2, hg⟩ := HB2.out
      obtain ⟨ho, hG, hr, hs, hh, hB, bX⟩ := hA.out
      have sp := speed_iff HM.out.2.2.2.1.1 hix hg
      have hr2 := (b2.block rb (heap_lt hr)).trans hr
      have hs2 := (b2.block sb (heap_lt hs)).trans hs
      have hh2 := (b2.block hb (heap_lt hh)).trans hh
      refine ⟨?_, ?_, ⟨⟨⟨⟨⟨_, _, heap_set (heap_set ho2 0 _) 1 _, sp2E_snoc hG sp.1 sp.2 (by split <;> omega) (by split <;> omega)⟩, ?_⟩, ?_⟩, ?_⟩, ?_⟩⟩
      · exact ((KeepsOthers.mk b2.size fun i o hi _ => (b2.block i (heap_lt hi)).trans hi).trans ((KeepsOthers.setCell _ _ _).trans (KeepsOthers.setCell _ _ _))).from _
      · refine ⟨by simpa using b2.size, fun j o hj hc hf => ?_⟩
        have hjo : j ≠ ob := fun e => hf (by subst e; rw [ho] at hj; cases hj; exact ⟨hgo, _, _, rfl⟩)
        exact heap_set_ne (heap_set_ne ((b2.block j (heap_lt hj)).trans hj) (fun e => hjo e) _) (fun e => hjo e) _
      · exact heap_set_ne (heap_set_ne hr2 (by simp; omega) _) (by simp; omega) _
      · exact heap_set_ne (heap_set_ne hs2 (by simp; omega) _) (by simp; omega) _
      · exact heap_set_ne (heap_set_ne hh2 (by simp; omega) _) (by simp; omega) _
      · exact ((hB.trans (b2.mono hB.size)).setCell hgo _).setCell hgo _
  case done =>
    rintro D ys W hD2 hys ⟨⟨⟨⟨⟨lo, hi, ho, hG⟩, hr⟩, hs⟩, hh⟩, hB⟩ hK
    have e := hG.2
    rw [hys] at e
    have o0 := (cell_of_heap ho 0).trans rfl
    have o1 := (cell_of_heap ho 1).trans rfl
    have r0 := (cell_of_heap hr 0).trans rfl
    have r1 := (cell_of_heap hr 1).trans rfl
    have p0 := frozen_of_heap hr 0
    have p1 := frozen_of_heap hr 1
    have zo := heap_lt ho
    have zr := heap_lt hr
    have hA := Lib.hid (And.intro ho (And.intro e (And.intro hr (And.intro hB hK))))
    clear ho hG hr hs hh hB hK e
    gi_wp2
    obtain ⟨ho, e, hr, hB, hK⟩ := hA.out
    have hrD : D ≠ rb := fun q => by subst q; rw [hr] at hK; cases hK
    have hK2 : ((W.setCell ⟨rb, 0, none⟩ (.int .i64 lo)).setCell ⟨rb, 1, none⟩ (.int .i64 hi)).heap[D]? = some (.deferred (some [])) :=
      heap_set_ne (heap_set_ne hK (fun q => hrD q) _) (fun q => hrD q) _
    refine ⟨by simp, .inl ⟨_, _, rfl, run_takeDeferred hK2, ?_⟩⟩
    refine ⟨_, sp_results2 (r := 6) (s := 7) rfl (W := _) (b := rb) (lo := lo) (hi := hi) ((World.putObj_heap_other (fun q => hrD q.symm)).trans (heap_set (heap_set hr 0 _) 1 _)) _ _ rfl rfl, lo, hi, rfl, e.1, e.2, ?_⟩
    exact ((hB.setCell hge.2.2.2 _).setCell hge.2.2.2 _).trans (belowK_b (w := w) (Nat.le_refl _) _ D _ _ (by omega) hK2 rfl rfl)
  case stop =>
    rintro D c pre W _ _ h _
    exact h.elim
set_option maxRecDepth 100000 in
set_option maxHeartbeats 4000000 in
theorem beset2_any (At : Option Addr) (ct : Nat) (Aw : Option Addr) (cw : Nat) (Ai : Option Addr) (ci : Nat) (s : Shp) (x : Cel) (ch : Bool) (w : World) (R : ShR At Aw Ai s w) (h0 : shipE s = 0) (hi : celOk x = true) :
    Calls Tryd.prog 13 #[.agg (shpV At ct Aw cw Ai ci s), .agg (celA x), .bool ch] w fun e w' => e = .returned (.tuple #[.bool ((endsL x).any (slowI s ch)), .bool ((endsL x).all (slowI s ch)), .int .i64 0]) ∧ Below w.heap.size w w' := by
  obtain ⟨W, hW⟩ : ∃ W, W = (w.alloc (.cells (shpV At ct Aw cw Ai ci s) 25)).alloc (.cells (celA x) 30) := ⟨_, rfl⟩
  obtain ⟨sb, hsb⟩ : ∃ b, b = w.heap.size := ⟨_, rfl⟩
  obtain ⟨cb, hcb⟩ : ∃ b, b = w.heap.size + 1 := ⟨_, rfl⟩
  have O : Own w.heap.size w [.blk sb (.cells (shpV At ct Aw cw Ai ci s) 25), .blk cb (.cells (celA x) 30)] W := by
    have h := ((Own.start w).alloc (.cells (shpV At ct Aw cw Ai ci s) 25)).alloc (.cells (celA x) 30)
    rw [hW, hsb, hcb]; simpa using h
  have km := speeds2_any At ct Aw cw Ai ci s x ch W (R.below O.bel) h0 hi
  unfold Sps2Post at km
  have HM := Lib.hid (And.intro km O)
  have s_ := O.heap 0 rfl
  have c_ := O.heap 1 rfl
  have s0 : W.cell? ⟨sb, 0, none⟩ = some _ := (cell_of_heap s_ 0).trans rfl
  have s1 : W.cell? ⟨sb, 1, none⟩ = some _ := (cell_of_heap s_ 1).trans rfl
  have s2 : W.cell? ⟨sb, 2, none⟩ = some _ := (cell_of_heap s_ 2).trans rfl
  have s3 : W.cell? ⟨sb, 3, none⟩ = some _ := (cell_of_heap s_ 3).trans rfl
  have s4 : W.cell? ⟨sb, 4, none⟩ = some _ := (cell_of_heap s_ 4).trans rfl
  have s5 : W.cell? ⟨sb, 5, none⟩ = some _ := (cell_of_heap s_ 5).trans rfl
  have s6 : W.cell? ⟨sb, 6, none⟩ = some _ := (cell_of_heap s_ 6).trans rfl
  have s7 : W.cell? ⟨sb, 7, none⟩ = some _ := (cell_of_heap s_ 7).trans rfl
  have s8 : W.cell? ⟨sb, 8, none⟩ = some _ := (cell_of_heap s_ 8).trans rfl
  have s9 : W.cell? ⟨sb, 9, none⟩ = some _ := (cell_of_heap s_ 9).trans rfl
  have s10 : W.cell? ⟨sb, 10, none⟩ = some _ := (cell_of_heap s_ 10).trans rfl
  have k0 : W.cell? ⟨cb, 0, none⟩ = some _ := (cell_of_heap c_ 0).trans rfl
  have k1 : W.cell? ⟨cb, 1, none⟩ = some _ := (cell_of_heap c_ 1).trans rfl
  have k2 : W.cell? ⟨cb, 2, none⟩ = some _ := (cell_of_heap c_ 2).trans rfl
  have k3 : W.cell? ⟨cb, 3, none⟩ = some _ := (cell_of_heap c_ 3).trans rfl
  have k4 : W.cell? ⟨cb, 4, none⟩ = some _ := (cell_of_heap c_ 4).trans rfl
  have k5 : W.cell? ⟨cb, 5, none⟩ = some _ := (cell_of_heap c_ 5).trans rfl
  have k6 : W.cell? ⟨cb, 6, none⟩ = some _ := (cell_of_heap c_ 6).trans rfl
  have k7 : W.cell? ⟨cb, 7, none⟩ = some _ := (cell_of_heap c_ 7).trans rfl
  have zs := heap_lt s_
  have zc := heap_lt c_
  clear O km s_ c_
  go_enter Tryd.func13, Tryd.ntmps13
  go_upto_region 1 with fail
  rw [← hW, ← hcb, ← hsb]
  clear hW hcb hsb
  go_upto_region 4 with (go_at_call 44; refine HM.out.1.mono ?_; rintro e w1 ⟨lo, hi, rfl, q1, q2, b1⟩; have H1 := Lib.hid (And.intro q1 (And.intro q2 b1)); clear b1 q1 q2 s0 s1 s2 s3 s4 s5 s6 s7 s8 s9 s10 k0 k1 k2 k3 k4 k5 k6 k7 zs zc)
  obtain ⟨ob, hob⟩ : ∃ b, b = w1.heap.size := ⟨_, rfl⟩
  obtain ⟨W2, hW2⟩ : ∃ W2, W2 = w1.alloc (.cells #[.int .i64 lo, .int .i64 hi] 28) := ⟨_, rfl⟩
  have O2 : Own w.heap.size w [.blk sb (.cells (shpV At ct Aw cw Ai ci s) 25), .blk cb (.cells (celA x) 30), .blk ob (.cells #[.int .i64 lo, .int .i64 hi] 28)] W2 := by
    have h := (HM.out.2.below H1.out.2.2).alloc (.cells #[.int .i64 lo, .int .i64 hi] 28)
    rw [hW2, hob]; exact h
  have c_ := O2.heap 2 rfl
  have k0 := (cell_of_heap c_ 0).trans rfl
  have k1 := (cell_of_heap c_ 1).trans rfl
  have zc := heap_lt c_
  have H2 := Lib.hid O2.bel
  clear O2 c_
  rw [← hW2, ← hob]
  clear hW2 hob
  go_quiet (fail)
  go_wp2_with fail
  refine bodyPost_ret (results3P rfl _ _ _) rfl ⟨?_, below_drewN H2.out _⟩
  have q1 := H1.out.1
  have q2 := H1.out.2.1
  rw [← q1, ← q2]; rfl

end Go.Proofs.YtalcinepeofmcaaDoor
/- hull: load, bears, Beyond (printed by wip/tools/hull15.py) -/
namespace Go.Proofs.YtalcinepeofmcaaDoor
open Go Go.RowKit Go.Shelf Go.Proofs Sp Hu
attribute [local go_sem] Oper.semAt_some
set_option linter.unusedVariables false
set_option linter.unusedSimpArgs false

def loadS (i : Ic) (v : Int) (ch : Bool) : Int := if i.con = 0 then 0 else if ch = true then (i.thk * (100 + v) + 1) / 2 + 2000 * i.prs else i.thk * (100 + v) + 300 * i.rid + 2000 * i.prs
def strL : List Int := [4000, 8000, 14000, 24000, 40000, 90000]
/-- the strengths of the classes, where they lie -/
def StrG (w : World) : Prop := 0 < w.heap.size ∧ ∀ k : Nat, k < 6 → w.cell? ⟨0, k, none⟩ = some (.int .i64 (strL.getD k 0))
theorem StrG.below {w w' : World} (h : StrG w) (hb : Below w.heap.size w w') : StrG w' := ⟨Nat.lt_of_lt_of_le h.1 hb.size, fun k hk => (hb.cell (p := ⟨0, k, none⟩) h.1).trans (h.2 k hk)⟩
def bearI (s : Shp) (v : Int) (ch : Bool) (i : Ic) : Bool := decide (loadS i v ch ≤ strL.getD (s.cls - 1).toNat 0)
def beyI (s : Shp) (v : Int) (ch : Bool) (i : Ic) : Bool := !bearI s v ch i

set_option maxRecDepth 100000 in
set_option maxHeartbeats 4000000 in
theorem load_any (i : Ic) (v : Int) (ch : Bool) (w : World) (hi : IcOk i) (hv : 0 ≤ v ∧ v ≤ 250) :
    Calls Tryd.prog 55 #[.agg (icV i), .int .i64 v, .bool ch] w fun e w' => e = .returned (.int .i64 (loadS i v ch)) ∧ Below w.heap.size w w' := by
  obtain ⟨c1, c2⟩ := hi.con
  obtain ⟨t1, t2⟩ := hi.thk
  obtain ⟨r1, r2⟩ := hi.rid
  obtain ⟨p1, p2⟩ := hi.prs
  have m1 := Int.mul_nonneg t1 (show 0 ≤ 100 + v by omega)
  have m2 : i.thk * (100 + v) ≤ 400 * 350 := Int.mul_le_mul t2 (by omega) (by omega) (by decide)
  have eV : loadS i v ch = loadS i v ch := rfl
  unfold loadS at eV
  obtain ⟨con, thk, rid, prs⟩ := i
  simp only at c1 c2 t1 t2 r1 r2 p1 p2 m1 m2
  obtain ⟨X, hX⟩ : ∃ X, X = w.alloc (.cells #[.int .i64 con, .int .i64 thk, .int .i64 rid, .int .i64 prs] 45) := ⟨_, rfl⟩
  obtain ⟨xb, hxb⟩ : ∃ b, b = w.heap.size := ⟨_, rfl⟩
  have hx : X.heap[xb]? = some (.cells #[.int .i64 con, .int .i64 thk, .int .i64 rid, .int .i64 prs] 45 (0, 0)) := by rw [hX, hxb]; exact heap_alloc_new _ _
  have bX : Below w.heap.size w X := by rw [hX]; exact (Below.refl _ _).alloc (Nat.le_refl _) _
  have x0 := (cell_of_heap hx 0).trans rfl
  have x1 := (cell_of_heap hx 1).trans rfl
  have x2 := (cell_of_heap hx 2).trans rfl
  have x3 := (cell_of_heap hx 3).trans rfl
  have zx := heap_lt hx
  have HB := Lib.hid bX
  clear bX hx
  obtain ⟨rr, hrr⟩ : ∃ r, r = loadS ⟨con, thk, rid, prs⟩ v ch := ⟨_, rfl⟩
  rw [← hrr]
  go_enter Tryd.func55, Tryd.ntmps55
  go_upto_region 1 with fail
  rw [← hX, ← hxb]
  clear hX hxb
  go_quiet (fail)
  have hmt : thk * (100 + v) = thk * (100 + v) := rfl
  obtain ⟨m, hm⟩ : ∃ m, m = thk * (100 + v) := ⟨_, rfl⟩
  rw [← hm] at m1 m2
  try rw [← hm]
  have hlo : rr = if con = 0 then 0 else if ch = true then (m + 1) / 2 + 2000 * prs else m + 300 * rid + 2000 * prs := by rw [hrr, hm]; rfl
  clear hm eV hmt hrr
  have hq : (m + 1).tdiv 2 = (m + 1) / 2 := Int.tdiv_eq_ediv_of_nonneg (by omega)
  cases ch
  · by_cases h0 : con = 0
    · subst h0
      go_wp2_with fail
      go_ret
      exact ⟨by first | rfl | (rw [hlo]; rfl), below_drewN HB.out _⟩
    · have e0 : (con == 0) = false := by simpa using h0
      rw [if_neg h0, if_neg (by decide)] at hlo
      have HL := Lib.hid hlo
      clear hlo
      go_wp2_with fail
      go_ret
      exact ⟨by rw [HL.out]; first | rfl | (congr 2; omega), below_drewN HB.out _⟩
  · by_cases h0 : con = 0
    · subst h0
      go_wp2_with fail
      go_ret
      exact ⟨by first | rfl | (rw [hlo]; rfl), below_drewN HB.out _⟩
    · have e0 : (con == 0) = false := by simpa using h0
      rw [if_neg h0, if_pos rfl] at hlo
      have HL := Lib.hid hlo
      clear hlo
      go_wp2_with fail
      go_ret
      exact ⟨by rw [HL.out]; first | rfl | (congr 2; omega), below_drewN HB.out _⟩

set_option linter.unusedVariables false
def Br1V (W0 : World) (rb sb k : Nat) (i : Ic) (u lo cl st : Int) (ch z : Bool) : Nat → Value → Prop
  | 0, v => v = .pointer (some ⟨rb, 1, none⟩)
  | 1, v => v = .agg (icV i)
  | 2, v => v = .int .i64 u
  | 3, v => v = .pointer (some ⟨rb, 5, none⟩)
  | 4, v => v = .bool ch
  | 5, v => v = .int .i64 lo
  | 6, v => v = .pointer (some ⟨rb, 0, none⟩)
  | 7, v => v = .pointer (some ⟨sb, 0, none⟩)
  | 8, v => v = .pointer (some ⟨sb, 0, none⟩)
  | 9, v => v = .pointer (some ⟨sb, 0, none⟩)
  | 10, v => v = .int .i64 cl
  | 11, v => v = .int .i64 (cl - 1)
  | 12, v => v = .pointer (some ⟨0, k, none⟩)
  | 13, v => v = .int .i64 st
  | 14, v => v = .bool z
  | 15, v => v = .bool z
  | _, _ => True
def Br1W (W0 : World) (rb sb k : Nat) (i : Ic) (u lo cl st : Int) (ch z : Bool) (l : Nat → Bool) (w : World) : Prop := Below W0.heap.size W0 w
set_option maxRecDepth 100000 in
set_option maxHeartbeats 4000000 in
theorem bears_any (c : ShC) (i : Ic) (ch : Bool) (v : Int) (w : World) (E : ShE c w) (G : StrG w) (hcl : 1 ≤ c.s.cls ∧ c.s.cls ≤ 6) (hi : IcOk i) (hv : 0 ≤ v ∧ v ≤ 250) :
    Calls Tryd.prog 27 #[.agg #[.pointer (some ⟨c.sb, 0, none⟩), .int .i64 i.con, .int .i64 i.thk, .int .i64 i.rid, .int .i64 i.prs, .bool ch], .int .i64 v] w fun e w' => e = .returned (.bool (bearI c.s v ch i)) ∧ Below w.heap.size w w' := by
  obtain ⟨W, hW⟩ : ∃ W, W = w.alloc (.cells #[.pointer (some ⟨c.sb, 0, none⟩), .int .i64 i.con, .int .i64 i.thk, .int .i64 i.rid, .int .i64 i.prs, .bool ch] 79) := ⟨_, rfl⟩
  obtain ⟨rb, hrb⟩ : ∃ b, b = w.heap.size := ⟨_, rfl⟩
  have hr : W.heap[rb]? = some (.cells #[.pointer (some ⟨c.sb, 0, none⟩), .int .i64 i.con, .int .i64 i.thk, .int .i64 i.rid, .int .i64 i.prs, .bool ch] 79 (0, 0)) := by rw [hW, hrb]; exact heap_alloc_new _ _
  have bW : Below w.heap.size w W := by rw [hW]; exact (Below.refl _ _).alloc (Nat.le_refl _) _
  obtain ⟨cl, hcl1⟩ : ∃ q, q = c.s.cls := ⟨_, rfl⟩
  obtain ⟨k, hk⟩ : ∃ k : Nat, (k : Int) = cl - 1 := ⟨(cl - 1).toNat, by omega⟩
  obtain ⟨st, hst⟩ : ∃ q, strL.getD k 0 = q := ⟨_, rfl⟩
  obtain ⟨lo, hlo⟩ : ∃ q, q = loadS i v ch := ⟨_, rfl⟩
  obtain ⟨z, hz⟩ : ∃ z, decide (lo ≤ st) = z := ⟨_, rfl⟩
  have ez : bearI c.s v ch i = z := by
    unfold bearI
    rw [← hz, ← hlo, ← hcl1, show (cl - 1).toNat = k from by omega, hst]
  rw [ez]
  have hk6 : k < 6 := by omega
  have kl : ∀ wx, Calls Tryd.prog 55 #[.agg (icV i), .int .i64 v, .bool ch] wx fun e w' => e = .returned (.int .i64 lo) ∧ Below wx.heap.size wx w' := fun wx => by rw [hlo]; exact load_any i v ch wx hi hv
  have HE := Lib.hid (E.below bW)
  have HG := Lib.hid (G.below bW)
  have HR := Lib.hid hr
  have KL := Lib.hid kl
  have HB := Lib.hid bW
  have HC := Lib.hid (And.intro hcl1 (And.intro hk (And.intro hk6 (And.intro hst hz))))
  have hcl6 : 1 ≤ cl ∧ cl ≤ 6 := by omega
  clear E G hr kl bW hcl1 hst hz ez hlo hcl hi
  go_enter Tryd.func27, Tryd.ntmps27
  go_upto_region 1 with fail
  rw [← hW, ← hrb]
  clear hW hrb hk
  refine wp_region_steps (σ := Unit) (by kernel_rfl) (by kernel_rfl) (fun _ jx vx _ => Br1V W rb c.sb k i v lo cl st ch z jx vx) (fun _ ly wx => Br1W W rb c.sb k i v lo cl st ch z ly wx) () ?_ ?_ ?_
  · exact (Below.refl _ _).drew
  · simp only [AllFrom, Nat.zero_add, Nat.reduceAdd]
    refine ⟨?_, ?_, ?_, ?_, ?_, ?_, ?_, ?_, ?_, ?_, ?_, ?_, ?_, ?_, ?_, ?_, trivial⟩
    · refine step_pure fun sg ly a wr hl hd hW hF => ?_
      have et2 := hF.old 2 (by kernel_rfl)
      simp [Act.eval] at et2
      exact ⟨by simpa [Br1W, upd] using hW, .pointer (some ⟨rb, 1, none⟩), by go_simp, rfl⟩
    · refine step_pure fun sg ly a wx hl hd hW hF => ?_
      simp [Region.binds] at hd
      have et5 := hF.new 0 5 (by simp [hd]) rfl
      simp [Br1V, Act.eval] at et5
      have hh := (Below.block hW _ (heap_lt HR.out)).trans HR.out
      have g0 := (cell_of_heap hh 0).trans rfl
      have g1 := (cell_of_heap hh 1).trans rfl
      have g2 := (cell_of_heap hh 2).trans rfl
      have g3 := (cell_of_heap hh 3).trans rfl
      have g4 := (cell_of_heap hh 4).trans rfl
      have g5 := (cell_of_heap hh 5).trans rfl
      have zz := heap_lt hh
      exact ⟨hW, .agg (icV i), by go_simp, rfl⟩
    · refine step_pure fun sg ly a wr hl hd hW hF => ?_
      have et1 := hF.old 1 (by kernel_rfl)
      simp [Act.eval] at et1
      exact ⟨by simpa [Br1W, upd] using hW, .int .i64 v, by go_simp, rfl⟩
    · refine step_pure fun sg ly a wr hl hd hW hF => ?_
      have et2 := hF.old 2 (by kernel_rfl)
      simp [Act.eval] at et2
      exact ⟨by simpa [Br1W, upd] using hW, .pointer (some ⟨rb, 5, none⟩), by go_simp, rfl⟩
    · refine step_pure fun sg ly a wx hl hd hW hF => ?_
      simp [Region.binds] at hd
      have et8 := hF.new 3 8 (by simp [hd]) rfl
      simp [Br1V, Act.eval] at et8
      have hh := (Below.block hW _ (heap_lt HR.out)).trans HR.out
      have g0 := (cell_of_heap hh 0).trans rfl
      have g1 := (cell_of_heap hh 1).trans rfl
      have g2 := (cell_of_heap hh 2).trans rfl
      have g3 := (cell_of_heap hh 3).trans rfl
      have g4 := (cell_of_heap hh 4).trans rfl
      have g5 := (cell_of_heap hh 5).trans rfl
      have zz := heap_lt hh
      exact ⟨hW, .bool ch, by go_simp, rfl⟩
    · refine step_call fun sg ly act wx hl hd hW hF => ?_
      simp [Region.binds] at hd
      have et6 := hF.new 1 6 (by simp [hd]) rfl
      simp [Br1V, Act.eval] at et6
      have et7 := hF.new 2 7 (by simp [hd]) rfl
      simp [Br1V, Act.eval] at et7
      have et9 := hF.new 4 9 (by simp [hd]) rfl
      simp [Br1V, Act.eval] at et9
      refine ⟨55, #[.agg (icV i), .int .i64 v, .bool ch], by go_simp, ?_⟩
      refine (KL.out wx).mono ?_
      rintro e w2 ⟨rfl, hb⟩
      exact ⟨_, (), rfl, hW.trans (Below.mono hb hW.size), rfl, fun _ _ _ h => h⟩
    · refine step_pure fun sg ly a wr hl hd hW hF => ?_
      have et2 := hF.old 2 (by kernel_rfl)
      simp [Act.eval] at et2
      exact ⟨by simpa [Br1W, upd] using hW, .pointer (some ⟨rb, 0, none⟩), by go_simp, rfl⟩
    · refine step_pure fun sg ly a wx hl hd hW hF => ?_
      simp [Region.binds] at hd
      have et11 := hF.new 6 11 (by simp [hd]) rfl
      simp [Br1V, Act.eval] at et11
      have hh := (Below.block hW _ (heap_lt HR.out)).trans HR.out
      have g0 := (cell_of_heap hh 0).trans rfl
      have g1 := (cell_of_heap hh 1).trans rfl
      have g2 := (cell_of_heap hh 2).trans rfl
      have g3 := (cell_of_heap hh 3).trans rfl
      have g4 := (cell_of_heap hh 4).trans rfl
      have g5 := (cell_of_heap hh 5).trans rfl
      have zz := heap_lt hh
      exact ⟨hW, .pointer (some ⟨c.sb, 0, none⟩), by go_simp, rfl⟩
    · refine step_pure fun sg ly a wx hl hd hW hF => ?_
      simp [Region.binds] at hd
      have et12 := hF.new 7 12 (by simp [hd]) rfl
      simp [Br1V, Act.eval] at et12
      have ee := HE.out.below hW
      have g0 : wx.cell? ⟨c.sb, 0, none⟩ = some (.int .i64 cl) := by rw [HC.out.1]; exact (cell_of_heap ee.hs 0).trans rfl
      have zz := ee.lt
      exact ⟨hW, .pointer (some ⟨c.sb, 0, none⟩), by go_simp, rfl⟩
    · refine step_pure fun sg ly a wr hl hd hW hF => ?_
      simp [Region.binds] at hd
      have et13 := hF.new 8 13 (by simp [hd]) rfl
      simp [Br1V, Act.eval] at et13
      exact ⟨by simpa [Br1W, upd] using hW, .pointer (some ⟨c.sb, 0, none⟩), by go_simp, rfl⟩
    · refine step_pure fun sg ly a wx hl hd hW hF => ?_
      simp [Region.binds] at hd
      have et14 := hF.new 9 14 (by simp [hd]) rfl
      simp [Br1V, Act.eval] at et14
      have ee := HE.out.below hW
      have g0 : wx.cell? ⟨c.sb, 0, none⟩ = some (.int .i64 cl) := by rw [HC.out.1]; exact (cell_of_heap ee.hs 0).trans rfl
      have zz := ee.lt
      exact ⟨hW, .int .i64 cl, by go_simp, rfl⟩
    · refine step_pure fun sg ly a wr hl hd hW hF => ?_
      simp [Region.binds] at hd
      have et15 := hF.new 10 15 (by simp [hd]) rfl
      simp [Br1V, Act.eval] at et15
      have ew := IntWalk.i64_in (cl - 1) (by omega)
      exact ⟨by simpa [Br1W, upd] using hW, .int .i64 (cl - 1), by go_simp, rfl⟩
    · refine step_pure fun sg ly a wx hl hd hW hF => ?_
      simp [Region.binds] at hd
      have et16 := hF.new 11 16 (by simp [hd]) rfl
      simp [Br1V, Act.eval] at et16
      have hk := HC.out.2.1
      have e6 : (cl - 1).toNat = k := by omega
      exact ⟨hW, .pointer (some ⟨0, k, none⟩), by go_simp; intro h; omega, rfl⟩
    · refine step_pure fun sg ly a wx hl hd hW hF => ?_
      simp [Region.binds] at hd
      have et17 := hF.new 12 17 (by simp [hd]) rfl
      simp [Br1V, Act.eval] at et17
      have gg := HG.out.below hW
      have g0 := gg.2 k HC.out.2.2.1
      rw [HC.out.2.2.2.1] at g0
      have zz := gg.1
      exact ⟨hW, .int .i64 st, by go_simp, rfl⟩
    · refine step_pure fun sg ly a wx hl hd hW hF => ?_
      simp [Region.binds] at hd
      have et10 := hF.new 5 10 (by simp [hd]) rfl
      simp [Br1V, Act.eval] at et10
      have et18 := hF.new 13 18 (by simp [hd]) rfl
      simp [Br1V, Act.eval] at et18
      have hz := HC.out.2.2.2.2
      exact ⟨hW, .bool z, by go_simp, rfl⟩
    · refine step_pure fun sg ly a wr hl hd hW hF => ?_
      simp [Region.binds] at hd
      have et19 := hF.new 14 19 (by simp [hd]) rfl
      simp [Br1V, Act.eval] at et19
      exact ⟨by simpa [Br1W, upd] using hW, .bool z, by go_simp, rfl⟩
  intro _ af w8 hWW hF
  have e4 := hF.new 15 4 (by decide) rfl
  obtain ⟨ff, hf, rfl⟩ := hF.lit
  rw [← hf] at e4
  simp only [Br1V] at e4
  have hB8 : Below W.heap.size W w8 := hWW
  clear hf hF hWW
  simp only [List.filterMap, List.foldl, List.setIfInBounds_toArray, List.set_cons_succ, List.set_cons_zero, e4]
  clear e4
  go_wp2_with fail
  go_ret
  exact ⟨rfl, HB.out.trans (hB8.mono HB.out.size)⟩

end Go.Proofs.YtalcinepeofmcaaDoor
/- hull: Beyond of any cell (printed by wip/tools/hull15.py) -/
namespace Go.Proofs.YtalcinepeofmcaaDoor
open Go Go.RowKit Go.Shelf Go.Proofs Sp Hu
attribute [local go_sem] Oper.semAt_some
set_option linter.unusedVariables false
set_option linter.unusedSimpArgs false

/-- what Beyond may write while it ranges -/
def freeBo (B : Nat) (k : Nat) (o : Obj) : Prop := B ≤ k ∧ ∃ cs fr, o = .cells cs 4 fr
def anyE (s : Shp) (v : Int) (ch : Bool) {x : Cel} (pre : List (EndI x)) : Bool := (pre.map EndI.v).any (beyI s v ch)
def allE (s : Shp) (v : Int) (ch : Bool) {x : Cel} (pre : List (EndI x)) : Bool := (pre.map EndI.v).all (beyI s v ch)
theorem anyE_snoc {s : Shp} {v : Int} {ch : Bool} {x : Cel} (pre : List (EndI x)) (y : EndI x) : anyE s v ch (pre ++ [y]) = (anyE s v ch pre || beyI s v ch y.v) := by simp [anyE]
theorem allE_snoc {s : Shp} {v : Int} {ch : Bool} {x : Cel} (pre : List (EndI x)) (y : EndI x) : allE s v ch (pre ++ [y]) = (allE s v ch pre && beyI s v ch y.v) := by simp [allE]
set_option maxRecDepth 100000 in
set_option maxHeartbeats 4000000 in
theorem beyond_any (At : Option Addr) (ct : Nat) (Aw : Option Addr) (cw : Nat) (Ai : Option Addr) (ci : Nat) (s : Shp) (x : Cel) (v : Int) (ch : Bool) (w : World) (R : ShR At Aw Ai s w) (h0 : shipE s = 0) (hi : celOk x = true) (hv : 0 ≤ v ∧ v ≤ 250) (G : StrG w) :
    Calls Tryd.prog 8 #[.agg (shpV At ct Aw cw Ai ci s), .agg (celA x), .int .i64 v, .bool ch] w fun e w' => e = .returned (.tuple #[.bool ((endsL x).any (beyI s v ch)), .bool ((endsL x).all (beyI s v ch)), .int .i64 0]) ∧ Below w.heap.size w w' := by
  obtain ⟨A0, hA0⟩ : ∃ A, A = (endsL x).any (beyI s v ch) := ⟨_, rfl⟩
  obtain ⟨B0, hB0⟩ : ∃ B, B = (endsL x).all (beyI s v ch) := ⟨_, rfl⟩
  rw [← hA0, ← hB0]
  have HAB := Lib.hid (And.intro hA0 hB0)
  clear hA0 hB0
  obtain ⟨W, hW⟩ : ∃ W, W = (((w.alloc (.cells (shpV At ct Aw cw Ai ci s) 25)).alloc (.cells (celA x) 30)).alloc (.cells #[.int .i64 v] 3)).alloc (.cells #[.bool ch] 4) := ⟨_, rfl⟩
  obtain ⟨sb, hsb⟩ : ∃ b, b = w.heap.size := ⟨_, rfl⟩
  obtain ⟨cb, hcb⟩ : ∃ b, b = w.heap.size + 1 := ⟨_, rfl⟩
  obtain ⟨vb, hvb⟩ : ∃ b, b = w.heap.size + 1 + 1 := ⟨_, rfl⟩
  obtain ⟨hb, hhb⟩ : ∃ b, b = w.heap.size + 1 + 1 + 1 := ⟨_, rfl⟩
  have O : Own w.heap.size w [.blk sb (.cells (shpV At ct Aw cw Ai ci s) 25), .blk cb (.cells (celA x) 30), .blk vb (.cells #[.int .i64 v] 3), .blk hb (.cells #[.bool ch] 4)] W := by
    have h := ((((Own.start w).alloc (.cells (shpV At ct Aw cw Ai ci s) 25)).alloc (.cells (celA x) 30)).alloc (.cells #[.int .i64 v] 3)).alloc (.cells #[.bool ch] 4)
    rw [hW, hsb, hcb, hvb, hhb]; simpa using h
  have RX := R.below O.bel
  have km := met_any At ct Aw cw Ai ci s x W RX
  have hE : metE s x = 0 := by unfold metE; rw [if_neg (by simpa using h0)]; unfold celE; rw [if_pos hi]
  rw [hE] at km
  have sok := shipE_ok h0
  have hcls : 1 ≤ s.cls ∧ s.cls ≤ 6 := by
    rcases Decidable.em (within s.cls 1 6 = false) with h | h
    · unfold shipE at h0; rw [if_pos h] at h0; cases h0
    · rw [Bool.not_eq_false] at h; simpa [within] using h
  have kv : ∀ wx, Calls Tryd.prog 25 #[.int .i64 v, .int .i64 0, .int .i64 250] wx fun e w' => e = .returned (.bool true) ∧ Below wx.heap.size wx w' := fun wx => by
    refine (huin_any v 0 250 wx).mono ?_
    rintro e w' ⟨rfl, h⟩
    have e1 : within v 0 250 = true := by simp [within]; omega
    exact ⟨by rw [e1], by first | exact h | (subst h; exact Below.refl _ _) | (rw [← h]; exact Below.refl _ _)⟩
  have HM := Lib.hid (And.intro km (And.intro O (And.intro R (And.intro hcls (And.intro hi (And.intro G kv))))))
  have s_ := O.heap 0 rfl
  have c_ := O.heap 1 rfl
  have v_ := O.heap 2 rfl
  have s0 : W.cell? ⟨sb, 0, none⟩ = some _ := (cell_of_heap s_ 0).trans rfl
  have s1 : W.cell? ⟨sb, 1, none⟩ = some _ := (cell_of_heap s_ 1).trans rfl
  have s2 : W.cell? ⟨sb, 2, none⟩ = some _ := (cell_of_heap s_ 2).trans rfl
  have s3 : W.cell? ⟨sb, 3, none⟩ = some _ := (cell_of_heap s_ 3).trans rfl
  have s4 : W.cell? ⟨sb, 4, none⟩ = some _ := (cell_of_heap s_ 4).trans rfl
  have s5 : W.cell? ⟨sb, 5, none⟩ = some _ := (cell_of_heap s_ 5).trans rfl
  have s6 : W.cell? ⟨sb, 6, none⟩ = some _ := (cell_of_heap s_ 6).trans rfl
  have s7 : W.cell? ⟨sb, 7, none⟩ = some _ := (cell_of_heap s_ 7).trans rfl
  have s8 : W.cell? ⟨sb, 8, none⟩ = some _ := (cell_of_heap s_ 8).trans rfl
  have s9 : W.cell? ⟨sb, 9, none⟩ = some _ := (cell_of_heap s_ 9).trans rfl
  have s10 : W.cell? ⟨sb, 10, none⟩ = some _ := (cell_of_heap s_ 10).trans rfl
  have k0 : W.cell? ⟨cb, 0, none⟩ = some _ := (cell_of_heap c_ 0).trans rfl
  have k1 : W.cell? ⟨cb, 1, none⟩ = some _ := (cell_of_heap c_ 1).trans rfl
  have k2 : W.cell? ⟨cb, 2, none⟩ = some _ := (cell_of_heap c_ 2).trans rfl
  have k3 : W.cell? ⟨cb, 3, none⟩ = some _ := (cell_of_heap c_ 3).trans rfl
  have k4 : W.cell? ⟨cb, 4, none⟩ = some _ := (cell_of_heap c_ 4).trans rfl
  have k5 : W.cell? ⟨cb, 5, none⟩ = some _ := (cell_of_heap c_ 5).trans rfl
  have k6 : W.cell? ⟨cb, 6, none⟩ = some _ := (cell_of_heap c_ 6).trans rfl
  have k7 : W.cell? ⟨cb, 7, none⟩ = some _ := (cell_of_heap c_ 7).trans rfl
  have v0 : W.cell? ⟨vb, 0, none⟩ = some (.int .i64 v) := (cell_of_heap v_ 0).trans rfl
  have zs := heap_lt s_
  have zc := heap_lt c_
  have zv := heap_lt v_
  clear O RX km hE h0 sok s_ c_ v_ kv R G hcls
  refine (callsIn_wide (n := 9)).1 ?_
  refine callsIn_of_wp_marks Tryd.func8 rfl trivial ?_ rfl
  simp only [Tryd.ntmps8, List.size_toArray, List.length_cons, List.length_nil, Nat.reduceAdd, Nat.reduceSub, Array.replicate_succ, Array.replicate_zero, List.push_toArray, List.append_toArray, List.nil_append, List.cons_append]
  gi_upto_region 1 with fail
  rw [← hW, ← hhb, ← hvb, ← hcb, ← hsb]
  clear hW hhb hvb hcb hsb
  gi_upto_region 2 with (refine ⟨trivial, ?_⟩; gi_at_call 24; refine (callsIn_wide.2 HM.out.1).mono ?_; rintro e w1 ⟨rfl, b1⟩; have O1 := HM.out.2.1.below b1; have v1 : w1.cell? ⟨vb, 0, none⟩ = some (.int .i64 v) := (cell_of_heap (O1.heap 2 rfl) 0).trans rfl; have zv1 := heap_lt (O1.heap 2 rfl); have H1 := Lib.hid b1; clear b1 s0 s1 s2 s3 s4 s5 s6 s7 s8 s9 s10 k0 k1 k2 k3 k4 k5 k6 k7 zs zc zv v0 O1)
  gi_upto_region 6 with (refine ⟨trivial, ?_⟩; gi_at_call 25; refine (callsIn_wide.2 (HM.out.2.2.2.2.2.2 _)).mono ?_; rintro e w2 ⟨rfl, b2⟩; have H2 := Lib.hid (H1.out.trans (b2.mono H1.out.size)); clear b2 v1 zv1)
  have hO2 := HM.out.2.1.below H2.out
  gi_upto_region 7 with fail
  obtain ⟨ob, hob⟩ : ∃ b, b = w2.heap.size := ⟨_, rfl⟩
  obtain ⟨pb, hpb⟩ : ∃ b, b = w2.heap.size + 1 := ⟨_, rfl⟩
  obtain ⟨W2, hW2⟩ : ∃ W2, W2 = (w2.alloc (.cells #[.bool false] 4)).alloc (.cells #[.bool true] 4) := ⟨_, rfl⟩
  have O2 : Own w.heap.size w [.blk sb (.cells (shpV At ct Aw cw Ai ci s) 25), .blk cb (.cells (celA x) 30), .blk vb (.cells #[.int .i64 v] 3), .blk hb (.cells #[.bool ch] 4), .blk ob (.cells #[.bool false] 4), .blk pb (.cells #[.bool true] 4)] W2 := by
    have h := (hO2.alloc (.cells #[.bool false] 4)).alloc (.cells #[.bool true] 4)
    rw [hW2, hob, hpb]; simpa using h
  rw [← hW2, ← hpb, ← hob]
  have hlt : sb < ob ∧ vb < ob ∧ hb < ob ∧ ob < pb := by
    have h1 := heap_lt (hO2.heap 0 rfl)
    have h2 := heap_lt (hO2.heap 2 rfl)
    have h3 := heap_lt (hO2.heap 3 rfl)
    omega
  have hgo : w.heap.size ≤ ob ∧ w.heap.size ≤ pb := by have := hO2.lo; omega
  have c_ := O2.heap 1 rfl
  have k0 : W2.cell? ⟨cb, 0, none⟩ = some _ := (cell_of_heap c_ 0).trans rfl
  have k1 : W2.cell? ⟨cb, 1, none⟩ = some _ := (cell_of_heap c_ 1).trans rfl
  have k2 : W2.cell? ⟨cb, 2, none⟩ = some _ := (cell_of_heap c_ 2).trans rfl
  have k3 : W2.cell? ⟨cb, 3, none⟩ = some _ := (cell_of_heap c_ 3).trans rfl
  have k4 : W2.cell? ⟨cb, 4, none⟩ = some _ := (cell_of_heap c_ 4).trans rfl
  have k5 : W2.cell? ⟨cb, 5, none⟩ = some _ := (cell_of_heap c_ 5).trans rfl
  have k6 : W2.cell? ⟨cb, 6, none⟩ = some _ := (cell_of_heap c_ 6).trans rfl
  have k7 : W2.cell? ⟨cb, 7, none⟩ = some _ := (cell_of_heap c_ 7).trans rfl
  have zc := heap_lt c_
  have H3 := Lib.hid O2
  clear O2 c_ hO2 hW2 hob hpb
  have ke := huends2_any x W2
  gi_wp2_with (refine ⟨trivial, ?_⟩; gi_at_call 26; refine (callsIn_wide.2 ke).mono ?_; rintro e w3 ⟨xb, rfl, hx1, hx2, b3⟩; have H4 := Lib.hid (And.intro hx1 (And.intro hx2 b3)); clear hx1 hx2 b3 k0 k1 k2 k3 k4 k5 k6 k7 zc ke)
  have hbw : Below w.heap.size w w3 := H3.out.bel.trans (H4.out.2.2.mono H3.out.bel.size)
  have O3 := H3.out.below H4.out.2.2
  have rs := O3.heap 0 rfl
  have rv := O3.heap 2 rfl
  have rh := O3.heap 3 rfl
  have ro := O3.heap 4 rfl
  have rp := O3.heap 5 rfl
  have hbs := hbw.size
  have hsz : ∀ W : World, Below w.heap.size w W → w.heap.size ≤ W.heap.size := fun W h => h.size
  clear O3
  refine wpIn_rangeFunc_ownH rfl (by omega) (gf := 52) (lb := #[.pointer (some ⟨xb, 0, none⟩)]) rfl trivial (enters_of Tryd.func52 (by kernel_rfl) rfl)
    (ends2_stops x xb (freeBo w.heap.size) (fun cs fr h => by obtain ⟨_, cs', fr', e⟩ := h; injection e with _ e _; exact absurd e (by decide)) w3 H4.out.2.1 _ (by omega))
    (fun h h' => h.trans h') (fun W l o o' _ hl ho _ => KpH.putObj hl ho o') (Below.refl _ _) (fun _ => rfl)
    (fun pre W => ((((W.heap[ob]? = some (.cells #[.bool (anyE s v ch pre)] 4 (0, 0)) ∧ W.heap[pb]? = some (.cells #[.bool (allE s v ch pre)] 4 (0, 0))) ∧ W.heap[sb]? = some (.cells (shpV At ct Aw cw Ai ci s) 25 (0, 0))) ∧ W.heap[vb]? = some (.cells #[.int .i64 v] 3 (0, 0))) ∧ W.heap[hb]? = some (.cells #[.bool ch] 4 (0, 0))) ∧ Below w.heap.size w W)
    (fun _ _ _ => False)
    (OwnFrom.and (OwnFrom.and (OwnFrom.and (OwnFrom.and (OwnFrom.and (Go.Own.from (ownH_cells ob (fun pre : List (EndI x) => .cells #[.bool (anyE s v ch pre)] 4 (0, 0)) (fun _ => rfl)) _) (Go.Own.from (ownH_cells pb (fun pre : List (EndI x) => .cells #[.bool (allE s v ch pre)] 4 (0, 0)) (fun _ => rfl)) _)) (Go.Own.from (ownH_cells sb (fun _ : List (EndI x) => .cells (shpV At ct Aw cw Ai ci s) 25 (0, 0)) (fun _ => rfl)) _)) (Go.Own.from (ownH_cells vb (fun _ : List (EndI x) => .cells #[.int .i64 v] 3 (0, 0)) (fun _ => rfl)) _)) (Go.Own.from (ownH_cells hb (fun _ : List (EndI x) => .cells #[.bool ch] 4 (0, 0)) (fun _ => rfl)) _)) (ownFrom_below (Nat.le_refl _) hbs))
    (fun _ _ _ _ _ hs _ _ => hs)
    ⟨⟨⟨⟨⟨ro, rp⟩, rs⟩, rv⟩, rh⟩, hbw⟩
    (fun y a' W => ∃ Bx, w.heap.size ≤ Bx ∧ W.heap[Bx]? = some (.cells (icV y.v) 45 (0, 0)) ∧
      a' = { tmps := #[.agg (shpV At ct Aw cw Ai ci s), .agg (celA x), .int .i64 v, .bool ch, .pointer (some ⟨sb, 0, none⟩), .pointer (some ⟨cb, 0, none⟩), .pointer (some ⟨vb, 0, none⟩), .pointer (some ⟨hb, 0, none⟩), .bool false, .bool false, .int .i64 0, .int .i64 0, .pointer (some ⟨ob, 0, none⟩), .pointer (some ⟨pb, 0, none⟩), .pointer (some ⟨Bx, 0, none⟩), undef, .agg (shpV At ct Aw cw Ai ci s), .agg (celA x), .int .i64 0, .int .i64 0, .bool false, undef, .int .i64 v, .bool true, .bool false, .agg (celA x), .func (.func 52) #[] #[.pointer (some ⟨xb, 0, none⟩)], .agg (icV y.v), undef, undef, undef, undef, undef, undef, undef, undef, undef, undef, undef, undef, undef, undef, undef, undef], defers := [] })
    (fun y a' s X Y row hs hg hrow => by
      obtain ⟨Bx, h1, h2, h3⟩ := hs
      refine ⟨Bx, h1, (hg.block Bx (heap_lt h2) (fun e => ?_)).trans h2, h3⟩
      obtain ⟨_, o, ho, hc⟩ := hrow Bx e.symm
      rw [h2] at ho; cases ho; cases hc)
    ?assign ?body ?done ?stop
  case assign =>
    rintro l pre y W K ⟨⟨⟨⟨⟨ho, hp⟩, hs⟩, hv0⟩, hh⟩, hB⟩ hK
    gi_wp2
    exact hK _ _ ((KeepsOthers.alloc _ _).from _) (KpH.alloc _ _) ⟨⟨⟨⟨⟨heap_alloc' ho _, heap_alloc' hp _⟩, heap_alloc' hs _⟩, heap_alloc' hv0 _⟩, heap_alloc' hh _⟩, hB.alloc hB.size _⟩ ⟨W.heap.size, hsz W hB, heap_alloc_new W _, rfl⟩
  case body =>
    rintro l pre ⟨i, hiE⟩ a' W hlw ⟨r, hr'⟩ ⟨⟨⟨⟨⟨ho, hp⟩, hs⟩, hv0⟩, hh⟩, hB⟩ ⟨Bx, hBx, bX, rfl⟩ hlt2
    have hix : IcOk i := endsL_ok HM.out.2.2.2.2.1 hiE
    have E : ShE ⟨sb, At, ct, Aw, cw, Ai, ci, s⟩ W := ⟨hs, (HM.out.2.2.1.below hB).rt, (HM.out.2.2.1.below hB).rw_, (HM.out.2.2.1.below hB).ri⟩
    have kj := bears_any ⟨sb, At, ct, Aw, cw, Ai, ci, s⟩ i ch v W E (HM.out.2.2.2.2.2.1.below hB) HM.out.2.2.2.1 hix hv
    obtain ⟨z, hz⟩ : ∃ z, z = bearI s v ch i := ⟨_, rfl⟩
    have hz2 : beyI s v ch i = !z := by unfold beyI; rw [hz]
    rw [← hz] at kj
    obtain ⟨A, hA⟩ : ∃ A, A = anyE s v ch pre := ⟨_, rfl⟩
    obtain ⟨B, hB1⟩ : ∃ B, B = allE s v ch pre := ⟨_, rfl⟩
    have hA2 : anyE s v ch (pre ++ [⟨i, hiE⟩]) = (A || !z) := by rw [anyE_snoc, hz2, hA]
    have hB2 : allE s v ch (pre ++ [⟨i, hiE⟩]) = (B && !z) := by rw [allE_snoc, hz2, hB1]
    rw [← hA] at ho
    rw [← hB1] at hp
    have x0 := (cell_of_heap bX 0).trans rfl
    have x1 := (cell_of_heap bX 1).trans rfl
    have x2 := (cell_of_heap bX 2).trans rfl
    have x3 := (cell_of_heap bX 3).trans rfl
    have y0 := (cell_of_heap hh 0).trans rfl
    have w0 := (cell_of_heap hv0 0).trans rfl
    have zx := heap_lt bX
    have zy := heap_lt hh
    have zw := heap_lt hv0
    have hQ := Lib.hid (And.intro ho (And.intro hp (And.intro hs (And.intro hv0 (And.intro hh (And.intro hB (And.intro hA2 hB2)))))))
    have HJ := Lib.hid kj
    clear ho hp hs hv0 hh hB bX kj E hz hz2 hA hB1 hA2 hB2
    cases A <;> cases B <;>
    (gi_wp2_with (refine ⟨trivial, ?_⟩; gi_at_call 27; refine (CallsIn.inRound l (callsIn_wide.2 HJ.out)).mono ?_; rintro e w2 ⟨rfl, b2⟩; have ho2 := (b2.block ob (heap_lt hQ.out.1)).trans hQ.out.1; have hp2 := (b2.block pb (heap_lt hQ.out.2.1)).trans hQ.out.2.1; have p0 := frozen_of_heap ho2 0; have p1 := frozen_of_heap hp2 0; have zo2 := heap_lt ho2; have zp2 := heap_lt hp2; have c0 := (cell_of_heap ho2 0).trans rfl; have c1 := (cell_of_heap hp2 0).trans rfl; have HB2 := Lib.hid (And.intro b2 (And.intro ho2 hp2)); clear b2 ho2 hp2)
     obtain ⟨b2, ho2, hp2⟩ := HB2.out
     obtain ⟨ho, hp, hs, hv0, hh, hB, hA2, hB2⟩ := hQ.out
     have hs2 := (b2.block sb (heap_lt hs)).trans hs
     have hv2 := (b2.block vb (heap_lt hv0)).trans hv0
     have hh2 := (b2.block hb (heap_lt hh)).trans hh
     refine ⟨?_, ?_, ⟨⟨⟨⟨⟨?_, ?_⟩, ?_⟩, ?_⟩, ?_⟩, ?_⟩⟩
     · exact ((KeepsOthers.mk b2.size fun i o hi _ => (b2.block i (heap_lt hi)).trans hi).trans ((KeepsOthers.setCell _ _ _).trans (KeepsOthers.setCell _ _ _))).from _
     · refine ⟨by simpa using b2.size, fun j o hj hc hf => ?_⟩
       have hjo : j ≠ ob := fun e => hf (by subst e; rw [ho] at hj; cases hj; exact ⟨hgo.1, _, _, rfl⟩)
       have hjp : j ≠ pb := fun e => hf (by subst e; rw [hp] at hj; cases hj; exact ⟨hgo.2, _, _, rfl⟩)
       exact heap_set_ne (heap_set_ne ((b2.block j (heap_lt hj)).trans hj) (fun e => hjo e) _) (fun e => hjp e) _
     · rw [hA2]; exact heap_set_ne (heap_set ho2 0 _) (by simp; omega) _
     · rw [hB2]; exact heap_set (heap_set_ne hp2 (by simp; omega) _) 0 _
     · exact heap_set_ne (heap_set_ne hs2 (by simp; omega) _) (by simp; omega) _
     · exact heap_set_ne (heap_set_ne hv2 (by simp; omega) _) (by simp; omega) _
     · exact heap_set_ne (heap_set_ne hh2 (by simp; omega) _) (by simp; omega) _
     · exact ((hB.trans (b2.mono hB.size)).setCell hgo.1 _).setCell hgo.2 _)
  case done =>
    rintro D ys W hD2 hys ⟨⟨⟨⟨⟨ho, hp⟩, hs⟩, hv0⟩, hh⟩, hB⟩ hK
    have eA : anyE s v ch ys = A0 := by unfold anyE; rw [hys, HAB.out.1]
    have eB : allE s v ch ys = B0 := by unfold allE; rw [hys, HAB.out.2]
    rw [eA] at ho
    rw [eB] at hp
    have o0 := (cell_of_heap ho 0).trans rfl
    have o1 := (cell_of_heap hp 0).trans rfl
    have zo := heap_lt ho
    have zp := heap_lt hp
    have hQ := Lib.hid (And.intro hB hK)
    clear ho hp hs hv0 hh hB hK eA eB hys
    gi_upto_region 11 with fail
    gi_region
    gi_wp2
    obtain ⟨hB, hK⟩ := hQ.out
    have hK2 : W.drew.heap[D]? = some (.deferred (some [])) := hK
    refine ⟨by simp, .inl ⟨_, _, rfl, run_takeDeferred hK2, ?_⟩⟩
    refine ⟨_, results3P rfl _ _ _, rfl, ?_⟩
    exact (hB.drew).trans (belowK_b (w := w) (Nat.le_refl _) _ D _ _ (by omega) hK2 rfl rfl)
  case stop =>
    rintro D c pre W _ _ h _
    exact h.elim

end Go.Proofs.YtalcinepeofmcaaDoor
