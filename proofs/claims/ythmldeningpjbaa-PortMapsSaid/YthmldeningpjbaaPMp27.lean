/- polynyaref09.Fold -/
import Derived.Test.YthmldeningpjbaaPMp26
import Derived.Test.YthmldeningpjbaaPMp20
import Derived.Test.YthmldeningpjbaaPMp19
import Derived.Test.YthmldeningpjbaaPMp22
set_option linter.unusedVariables false
set_option linter.unusedSimpArgs false
namespace Go.Proofs.Ythmldeningpjbaa
open Go Go.RowKit Sp Pt
set_option linter.unusedVariables false
set_option linter.unusedSimpArgs false

set_option maxRecDepth 100000 in
set_option maxHeartbeats 4000000 in
theorem rFold_any (D : Nat) (Ac : Option Addr) (cc : Nat) (Ab : Option Addr) (cb : Nat) (p : Prt) (Al : Option Addr) (cl : Nat) (As : Option Addr) (cs : Nat) (l : Pln) (k : Int) (w : World) (PB : PrtB D w Ac cc Ab cb p) (LB : PlnB D w Al cl As cs l) (hD : D ≤ w.heap.size) :
    Calls Try.prog 45 #[.agg (prtV Ac cc Ab cb p), .agg (plnV Al cl As cs l), .int .i64 k] w
      fun e w' => e = .returned (.tuple #[mpV (foldVal p l k), .int .i64 (foldE p l k)]) ∧ Below w.heap.size w w' := by
  obtain ⟨W, hW⟩ : ∃ W, W = ((w.alloc (.cells (prtV Ac cc Ab cb p) 79)).alloc (.cells (plnV Al cl As cs l) 85)).alloc (.cells #[.int .i64 0, .int .i64 0, .int .i64 0] 95) := ⟨_, rfl⟩
  obtain ⟨pb, hpb⟩ : ∃ b, b = w.heap.size := ⟨_, rfl⟩
  obtain ⟨lb, hlb⟩ : ∃ b, b = w.heap.size + 1 := ⟨_, rfl⟩
  obtain ⟨rb, hrb⟩ : ∃ b, b = w.heap.size + 1 + 1 := ⟨_, rfl⟩
  have O0 : Own w.heap.size w [.blk pb (.cells (prtV Ac cc Ab cb p) 79), .blk lb (.cells (plnV Al cl As cs l) 85), .blk rb (.cells #[.int .i64 0, .int .i64 0, .int .i64 0] 95)] W := by
    have h := ((((Own.start w).alloc (.cells (prtV Ac cc Ab cb p) 79)).alloc (.cells (plnV Al cl As cs l) 85)).alloc (.cells #[.int .i64 0, .int .i64 0, .int .i64 0] 95))
    rw [hW, hpb, hlb, hrb]
    simpa using h
  have hDW : D ≤ W.heap.size := Nat.le_trans hD O0.bel.size
  have PBW : ∀ wx, Below W.heap.size W wx → PrtB D wx Ac cc Ab cb p := fun wx hb => (PB.below (O0.bel.mono hD)).below (hb.mono hDW)
  have LBW : ∀ wx, Below W.heap.size W wx → PlnB D wx Al cl As cs l := fun wx hb => (LB.below (O0.bel.mono hD)).below (hb.mono hDW)
  obtain ⟨er, her⟩ : ∃ er, er = checkL p l := ⟨_, rfl⟩
  have kck : Calls Try.prog 53 #[.agg (prtV Ac cc Ab cb p), .agg (plnV Al cl As cs l)] W _ := rCheckPlan_any D Ac cc Ab cb p Al cl As cs l W (PBW W (Below.refl _ _)) (LBW W (Below.refl _ _)) hDW
  rw [← her] at kck
  have hcap := And.intro PB.c1 (And.intro PB.c2 (And.intro LB.c1 LB.c2))
  have cellsAt : ∀ wx, Below W.heap.size W wx → wx.heap[rb]? = some (.cells #[.int .i64 0, .int .i64 0, .int .i64 0] 95 (0, 0)) ∧ (wx.cell? ⟨pb, 0, none⟩ = some (.slice Ac p.chs.length cc) ∧ wx.cell? ⟨pb, 1, none⟩ = some (.slice Ab p.bts.length cb) ∧ wx.cell? ⟨pb, 2, none⟩ = some (.int .i64 p.tugs) ∧ wx.cell? ⟨lb, 0, none⟩ = some (.int .i64 l.hours) ∧ wx.cell? ⟨lb, 1, none⟩ = some (.slice Al l.calls.length cl) ∧ wx.cell? ⟨lb, 2, none⟩ = some (.slice As l.swps.length cs) ∧ pb < wx.heap.size ∧ lb < wx.heap.size ∧ rb < wx.heap.size) := fun wx hb => by
    have O := O0.below hb
    have h0 := O.heap 0 rfl
    have h1 := O.heap 1 rfl
    exact ⟨O.heap 2 rfl, (cell_of_heap h0 0).trans rfl, (cell_of_heap h0 1).trans rfl, (cell_of_heap h0 2).trans rfl, (cell_of_heap h1 0).trans rfl, (cell_of_heap h1 1).trans rfl, (cell_of_heap h1 2).trans rfl, heap_lt h0, heap_lt h1, heap_lt (O.heap 2 rfl)⟩
  obtain ⟨-, c0, c1, c2, c3, c4, c5, zp, zl, zr⟩ := cellsAt W (Below.refl _ _)
  have hrw : w.heap.size ≤ rb := by omega
  have hne : pb ≠ rb ∧ lb ≠ rb := by omega
  have H := Lib.hid (And.intro O0.bel (And.intro cellsAt (And.intro PBW (And.intro LBW (And.intro her (And.intro kck hDW))))))
  clear O0 cellsAt PBW LBW her kck hDW PB LB
  go_enter Try.func45, Try.ntmps45
  go_upto_region 1 with fail
  rw [← hW, ← hrb, ← hlb, ← hpb]
  clear hW hlb hpb hrb
  by_cases h0 : er = 0
  · subst h0
    go_upto_region 4 with (go_at_call 53; refine H.out.2.2.2.2.2.1.mono ?_; rintro e w1 ⟨rfl, b1⟩; have B1 := Lib.hid b1; clear b1)
    clear c0 c1 c2 c3 c4 c5 zp zl zr
    obtain ⟨hr1, c0, c1, c2, c3, c4, c5, zp, zl, zr⟩ := H.out.2.1 w1 B1.out
    have hck : checkL p l = 0 := H.out.2.2.2.2.1.symm
    have v := val_of hck
    have hnc := v.nc
    have bw1 : Below w.heap.size w w1 := H.out.1.trans (B1.out.mono H.out.1.size)
    have u0 := frozen_of_heap hr1 0
    have u1 := frozen_of_heap hr1 1
    have u2 := frozen_of_heap hr1 2
    have t0 := (cell_of_heap hr1 0).trans rfl
    have t1 := (cell_of_heap hr1 1).trans rfl
    have t2 := (cell_of_heap hr1 2).trans rfl
    have H1 := Lib.hid (And.intro hck (And.intro v (And.intro bw1 hr1)))
    clear hck v bw1 hr1
    cases hw : within k 0 ((p.chs.length : Int) - 1)
    · go_wp2_with (go_at_call 102; refine (rin9_any _ _ _ _).mono ?_; rintro e w' ⟨rfl, rfl⟩)
      have e1 : foldE p l k = 1 := by unfold foldE; rw [if_neg (by rw [H1.out.1]; simp), if_pos hw]
      refine bodyPost_ret (mpR_results2 (r := 6) (s := 7) rfl (b := rb) (m := ⟨0, 0, 0⟩) (heap_set (heap_set (heap_set H1.out.2.2.2 0 _) 1 _) 2 _) _ (.int .i64 1) rfl rfl) rfl ⟨?_, ((H1.out.2.2.1.setCell hrw _).setCell hrw _).setCell hrw _⟩
      rw [foldVal, e1]; rfl
    · obtain ⟨c, rfl⟩ : ∃ c : Nat, k = (c : Int) := ⟨k.toNat, by have := Pt.within_iff.1 hw; omega⟩
      have hc : c < p.chs.length := by have := Pt.within_iff.1 hw; omega
      have hrest := rfold_any D Ac cc Ab cb p Al cl As cs l c w1 (H.out.2.2.1 w1 B1.out) (H.out.2.2.2.1 w1 B1.out) (Nat.le_trans H.out.2.2.2.2.2.2 B1.out.size) H1.out.2.1 hc
      obtain ⟨z, hz⟩ : ∃ z, z = foldS p l (c : Int) := ⟨_, rfl⟩
      rw [← hz] at hrest
      have HF := Lib.hid (And.intro hrest hz)
      clear hrest hz
      go_wp2_with (first | (go_at_call 102; refine (rin9_any _ _ _ _).mono ?_; rintro e w' ⟨rfl, rfl⟩) | (go_at_call 91; refine HF.out.1.mono ?_; rintro e w2 ⟨rfl, b2⟩; have hr2 := (b2.block _ zr).trans H1.out.2.2.2; have u0 := frozen_of_heap hr2 0; have u1 := frozen_of_heap hr2 1; have u2 := frozen_of_heap hr2 2; have t0 := (cell_of_heap hr2 0).trans rfl; have t1 := (cell_of_heap hr2 1).trans rfl; have t2 := (cell_of_heap hr2 2).trans rfl; have zr2 := heap_lt hr2; have H2 := Lib.hid (And.intro b2 hr2); clear b2 hr2))
      have e1 : foldE p l (c : Int) = 0 := by unfold foldE; rw [if_neg (by rw [H1.out.1]; simp), if_neg (by rw [hw]; simp)]
      refine bodyPost_ret (mpR_results2 (r := 6) (s := 7) rfl (b := rb) (m := z) (heap_set (heap_set (heap_set H2.out.2 0 _) 1 _) 2 _) _ (.int .i64 0) rfl rfl) rfl ⟨?_, (((H1.out.2.2.1.trans (H2.out.1.mono H1.out.2.2.1.size)).setCell hrw _).setCell hrw _).setCell hrw _⟩
      rw [foldVal, e1, if_pos rfl, ← HF.out.2]
  · have hne0 : (er != 0) = true := by simp [h0]
    have hfe : foldE p l k = er := by unfold foldE; rw [if_pos (by rw [← H.out.2.2.2.2.1]; exact h0), H.out.2.2.2.2.1]
    have HC := Lib.hid (And.intro hfe h0)
    clear hfe h0
    go_wp2_with (go_at_call 53; refine H.out.2.2.2.2.2.1.mono ?_; rintro e w1 ⟨rfl, b1⟩; obtain ⟨hr1, -⟩ := H.out.2.1 w1 b1; have u0 := frozen_of_heap hr1 0; have u1 := frozen_of_heap hr1 1; have u2 := frozen_of_heap hr1 2; have t0 := (cell_of_heap hr1 0).trans rfl; have t1 := (cell_of_heap hr1 1).trans rfl; have t2 := (cell_of_heap hr1 2).trans rfl; have zr1 := heap_lt hr1; have B1 := Lib.hid (And.intro b1 hr1); clear b1 hr1)
    refine bodyPost_ret (mpR_results2 (r := 6) (s := 7) rfl (b := rb) (m := ⟨0, 0, 0⟩) (heap_set (heap_set (heap_set B1.out.2 0 _) 1 _) 2 _) _ (.int .i64 er) rfl rfl) rfl ⟨?_, (((H.out.1.trans (B1.out.1.mono H.out.1.size)).setCell hrw _).setCell hrw _).setCell hrw _⟩
    rw [foldVal, HC.out.1, if_neg HC.out.2]
end Go.Proofs.Ythmldeningpjbaa
/- port.Join -/
namespace Go.Proofs.Ythmldeningpjbaa
open Go Go.RowKit Sp Pt
set_option linter.unusedVariables false
set_option linter.unusedSimpArgs false

set_option maxRecDepth 100000 in
set_option maxHeartbeats 4000000 in
theorem Join_any (a m : Mp) (w : World) :
    Calls Try.prog 25 #[mpV a, mpV m] w fun e w' => e = .returned (.tuple #[mpV (joinV a m), .int .i64 (joinE a m)]) ∧ Below w.heap.size w w' := by
  obtain ⟨W, hW⟩ : ∃ W, W = ((w.alloc (.cells #[.int .i64 a.add, .int .i64 a.floor, .int .i64 a.most] 59)).alloc (.cells #[.int .i64 m.add, .int .i64 m.floor, .int .i64 m.most] 59)).alloc (.cells #[.int .i64 0, .int .i64 0, .int .i64 0] 59) := ⟨_, rfl⟩
  obtain ⟨b1, h1⟩ : ∃ b, b = w.heap.size := ⟨_, rfl⟩
  obtain ⟨b2, h2⟩ : ∃ b, b = w.heap.size + 1 := ⟨_, rfl⟩
  obtain ⟨rb, h3⟩ : ∃ b, b = w.heap.size + 1 + 1 := ⟨_, rfl⟩
  have g1 : W.heap[b1]? = some (.cells #[.int .i64 a.add, .int .i64 a.floor, .int .i64 a.most] 59 (0, 0)) := by rw [hW, h1]; exact heap_alloc' (heap_alloc' (heap_alloc_new _ _) _) _
  have g2 : W.heap[b2]? = some (.cells #[.int .i64 m.add, .int .i64 m.floor, .int .i64 m.most] 59 (0, 0)) := by
    rw [hW, h2]
    refine heap_alloc' ?_ _
    have := heap_alloc_new (w.alloc (.cells #[.int .i64 a.add, .int .i64 a.floor, .int .i64 a.most] 59)) (.cells #[.int .i64 m.add, .int .i64 m.floor, .int .i64 m.most] 59)
    rwa [World.size_alloc] at this
  have g3 : W.heap[rb]? = some (.cells #[.int .i64 0, .int .i64 0, .int .i64 0] 59 (0, 0)) := by
    rw [hW, h3]
    have := heap_alloc_new ((w.alloc (.cells #[.int .i64 a.add, .int .i64 a.floor, .int .i64 a.most] 59)).alloc (.cells #[.int .i64 m.add, .int .i64 m.floor, .int .i64 m.most] 59)) (.cells #[.int .i64 0, .int .i64 0, .int .i64 0] 59)
    rwa [World.size_alloc, World.size_alloc] at this
  have b0 : Below w.heap.size w W := by rw [hW]; exact (((Below.refl _ _).alloc (Nat.le_refl _) _).alloc (by simp) _).alloc (by simp; omega) _
  have hrw : w.heap.size ≤ rb := by omega
  have F : ∀ wx, Below W.heap.size W wx → (∀ j u, (#[Value.int .i64 a.add, .int .i64 a.floor, .int .i64 a.most] : Array Value)[j]? = some u → wx.cell? ⟨b1, j, none⟩ = some u) ∧ (∀ j u, (#[Value.int .i64 m.add, .int .i64 m.floor, .int .i64 m.most] : Array Value)[j]? = some u → wx.cell? ⟨b2, j, none⟩ = some u) ∧ wx.heap[rb]? = some (.cells #[.int .i64 0, .int .i64 0, .int .i64 0] 59 (0, 0)) ∧ b1 < wx.heap.size ∧ b2 < wx.heap.size := fun wx b =>
    ⟨fun j u hu => (cell_of_heap ((b.block _ (heap_lt g1)).trans g1) j).trans hu, fun j u hu => (cell_of_heap ((b.block _ (heap_lt g2)).trans g2) j).trans hu, (b.block _ (heap_lt g3)).trans g3, Nat.lt_of_lt_of_le (heap_lt g1) b.size, Nat.lt_of_lt_of_le (heap_lt g2) b.size⟩
  obtain ⟨ra, hra⟩ : ∃ r, r = mright a := ⟨_, rfl⟩
  obtain ⟨rm, hrm⟩ : ∃ r, r = mright m := ⟨_, rfl⟩
  have ka : ∀ wx, Calls Try.prog 78 #[.agg #[.int .i64 a.add, .int .i64 a.floor, .int .i64 a.most]] wx fun e w' => e = .returned (.bool ra) ∧ Below wx.heap.size wx w' := fun wx => by rw [hra]; exact mpRight_any a wx
  have km : ∀ wx, Calls Try.prog 78 #[.agg #[.int .i64 m.add, .int .i64 m.floor, .int .i64 m.most]] wx fun e w' => e = .returned (.bool rm) ∧ Below wx.heap.size wx w' := fun wx => by rw [hrm]; exact mpRight_any m wx
  obtain ⟨p0, p1, p2⟩ : W.cell? ⟨b1, 0, none⟩ = some (.int .i64 a.add) ∧ W.cell? ⟨b1, 1, none⟩ = some (.int .i64 a.floor) ∧ W.cell? ⟨b1, 2, none⟩ = some (.int .i64 a.most) := ⟨(F W (Below.refl _ _)).1 0 _ rfl, (F W (Below.refl _ _)).1 1 _ rfl, (F W (Below.refl _ _)).1 2 _ rfl⟩
  have z1 := heap_lt g1
  have z2 := heap_lt g2
  have z3 := heap_lt g3
  have H := Lib.hid (And.intro b0 (And.intro F (And.intro hra (And.intro hrm (And.intro ka km)))))
  clear b0 F hra hrm ka km g1 g2 g3
  simp only [mpV]
  go_enter Try.func25, Try.ntmps25
  go_upto_region 1 with fail
  rw [← hW, ← h3, ← h2, ← h1]
  clear hW h1 h2 h3
  cases ra
  · go_wp2_with (go_at_call 78; refine (H.out.2.2.2.2.1 _).mono ?_; rintro e w2 ⟨rfl, c2⟩; have HFw2 := Lib.hid c2; have q0 := (H.out.2.1 w2 c2).1 0 _ rfl; have q1 := (H.out.2.1 w2 c2).1 1 _ rfl; have q2 := (H.out.2.1 w2 c2).1 2 _ rfl; have r0 := (H.out.2.1 w2 c2).2.1 0 _ rfl; have r1 := (H.out.2.1 w2 c2).2.1 1 _ rfl; have r2 := (H.out.2.1 w2 c2).2.1 2 _ rfl; have hr := (H.out.2.1 w2 c2).2.2.1; have f0 := frozen_of_heap hr 0; have f1 := frozen_of_heap hr 1; have f2 := frozen_of_heap hr 2; have d0 := (cell_of_heap hr 0).trans rfl; have d1 := (cell_of_heap hr 1).trans rfl; have d2 := (cell_of_heap hr 2).trans rfl; have zr := heap_lt hr; have za := (H.out.2.1 w2 c2).2.2.2.1; have zb := (H.out.2.1 w2 c2).2.2.2.2; clear hr; clear c2)
    refine bodyPost_ret (mp_results2 (r := 4) (s := 5) rfl (b := rb) (m := ⟨0, 0, 0⟩) (st3_heap' (H.out.2.1 w2 HFw2.out).2.2.1 _ _ _) _ (.int .i64 1) rfl rfl) rfl ⟨?_, (((H.out.1.trans (HFw2.out.mono H.out.1.size)).setCell hrw _).setCell hrw _).setCell hrw _⟩
    have e : joinE a m = 1 := by unfold joinE; rw [if_pos (.inl H.out.2.2.1.symm)]
    have e2 : joinV a m = ⟨0, 0, 0⟩ := by unfold joinV; rw [if_neg (by rw [e]; decide)]
    rw [e, e2]
  · cases rm
    · go_wp2_with (first | (go_at_call 78; have bb := HFw2; clear bb; refine (H.out.2.2.2.2.2 _).mono ?_; rintro e w3 ⟨rfl, c3'⟩; have c3 := HFw2.out.trans (c3'.mono HFw2.out.size); have HFw3 := Lib.hid c3; have q0 := (H.out.2.1 w3 c3).1 0 _ rfl; have q1 := (H.out.2.1 w3 c3).1 1 _ rfl; have q2 := (H.out.2.1 w3 c3).1 2 _ rfl; have r0 := (H.out.2.1 w3 c3).2.1 0 _ rfl; have r1 := (H.out.2.1 w3 c3).2.1 1 _ rfl; have r2 := (H.out.2.1 w3 c3).2.1 2 _ rfl; have hr := (H.out.2.1 w3 c3).2.2.1; have f0 := frozen_of_heap hr 0; have f1 := frozen_of_heap hr 1; have f2 := frozen_of_heap hr 2; have d0 := (cell_of_heap hr 0).trans rfl; have d1 := (cell_of_heap hr 1).trans rfl; have d2 := (cell_of_heap hr 2).trans rfl; have zr := heap_lt hr; have za := (H.out.2.1 w3 c3).2.2.2.1; have zb := (H.out.2.1 w3 c3).2.2.2.2; clear hr; clear c3 c3') | (go_at_call 78; refine (H.out.2.2.2.2.1 _).mono ?_; rintro e w2 ⟨rfl, c2⟩; have HFw2 := Lib.hid c2; have q0 := (H.out.2.1 w2 c2).1 0 _ rfl; have q1 := (H.out.2.1 w2 c2).1 1 _ rfl; have q2 := (H.out.2.1 w2 c2).1 2 _ rfl; have r0 := (H.out.2.1 w2 c2).2.1 0 _ rfl; have r1 := (H.out.2.1 w2 c2).2.1 1 _ rfl; have r2 := (H.out.2.1 w2 c2).2.1 2 _ rfl; have hr := (H.out.2.1 w2 c2).2.2.1; have f0 := frozen_of_heap hr 0; have f1 := frozen_of_heap hr 1; have f2 := frozen_of_heap hr 2; have d0 := (cell_of_heap hr 0).trans rfl; have d1 := (cell_of_heap hr 1).trans rfl; have d2 := (cell_of_heap hr 2).trans rfl; have zr := heap_lt hr; have za := (H.out.2.1 w2 c2).2.2.2.1; have zb := (H.out.2.1 w2 c2).2.2.2.2; clear hr; clear c2))
      refine bodyPost_ret (mp_results2 (r := 4) (s := 5) rfl (b := rb) (m := ⟨0, 0, 0⟩) (st3_heap' (H.out.2.1 w3 HFw3.out).2.2.1 _ _ _) _ (.int .i64 1) rfl rfl) rfl ⟨?_, (((H.out.1.trans (HFw3.out.mono H.out.1.size)).setCell hrw _).setCell hrw _).setCell hrw _⟩
      have e : joinE a m = 1 := by unfold joinE; rw [if_pos (.inr H.out.2.2.2.1.symm)]
      have e2 : joinV a m = ⟨0, 0, 0⟩ := by unfold joinV; rw [if_neg (by rw [e]; decide)]
      rw [e, e2]
    · go_upto_region 3 with (first | (go_at_call 78; have bb := HFw2; clear bb; refine (H.out.2.2.2.2.2 _).mono ?_; rintro e w3 ⟨rfl, c3'⟩; have c3 := HFw2.out.trans (c3'.mono HFw2.out.size); have HFw3 := Lib.hid c3; have q0 := (H.out.2.1 w3 c3).1 0 _ rfl; have q1 := (H.out.2.1 w3 c3).1 1 _ rfl; have q2 := (H.out.2.1 w3 c3).1 2 _ rfl; have r0 := (H.out.2.1 w3 c3).2.1 0 _ rfl; have r1 := (H.out.2.1 w3 c3).2.1 1 _ rfl; have r2 := (H.out.2.1 w3 c3).2.1 2 _ rfl; have hr := (H.out.2.1 w3 c3).2.2.1; have f0 := frozen_of_heap hr 0; have f1 := frozen_of_heap hr 1; have f2 := frozen_of_heap hr 2; have d0 := (cell_of_heap hr 0).trans rfl; have d1 := (cell_of_heap hr 1).trans rfl; have d2 := (cell_of_heap hr 2).trans rfl; have zr := heap_lt hr; have za := (H.out.2.1 w3 c3).2.2.2.1; have zb := (H.out.2.1 w3 c3).2.2.2.2; clear hr; clear c3 c3') | (go_at_call 78; refine (H.out.2.2.2.2.1 _).mono ?_; rintro e w2 ⟨rfl, c2⟩; have HFw2 := Lib.hid c2; have q0 := (H.out.2.1 w2 c2).1 0 _ rfl; have q1 := (H.out.2.1 w2 c2).1 1 _ rfl; have q2 := (H.out.2.1 w2 c2).1 2 _ rfl; have r0 := (H.out.2.1 w2 c2).2.1 0 _ rfl; have r1 := (H.out.2.1 w2 c2).2.1 1 _ rfl; have r2 := (H.out.2.1 w2 c2).2.1 2 _ rfl; have hr := (H.out.2.1 w2 c2).2.2.1; have f0 := frozen_of_heap hr 0; have f1 := frozen_of_heap hr 1; have f2 := frozen_of_heap hr 2; have d0 := (cell_of_heap hr 0).trans rfl; have d1 := (cell_of_heap hr 1).trans rfl; have d2 := (cell_of_heap hr 2).trans rfl; have zr := heap_lt hr; have za := (H.out.2.1 w2 c2).2.2.2.1; have zb := (H.out.2.1 w2 c2).2.2.2.2; clear hr; clear c2))
      obtain ⟨y, hy⟩ : ∃ y, y = join1 a m := ⟨_, rfl⟩
      have kj := join_any a m w3.heap.size 0 1 (w3.alloc (.cells #[.int .i64 m.add, .int .i64 m.floor, .int .i64 m.most] 59)) (by simp) ((cell_of_heap (heap_alloc_new w3 _) 0).trans rfl) ((cell_of_heap (heap_alloc_new w3 _) 1).trans rfl) ((cell_of_heap (heap_alloc_new w3 _) 2).trans rfl) (mright_far H.out.2.2.1.symm) (mright_far H.out.2.2.2.1.symm)
      rw [← hy] at kj
      have HJ := Lib.hid (And.intro kj hy)
      clear kj hy
      go_upto_region 4 with (go_at_call 79; refine HJ.out.1.mono ?_; rintro e w4 ⟨rfl, c4'⟩; have HF4 := Lib.hid (HFw3.out.trans (((Below.refl _ _).alloc HFw3.out.size _).trans (c4'.mono (by have := HFw3.out.size; simp; omega)))); clear c4')
      obtain ⟨X, hX⟩ : ∃ X, X = w4.alloc (.cells #[.int .i64 y.add, .int .i64 y.floor, .int .i64 y.most] 59) := ⟨_, rfl⟩
      obtain ⟨yb, hyb⟩ : ∃ b, b = w4.heap.size := ⟨_, rfl⟩
      have gX : X.heap[yb]? = some (.cells #[.int .i64 y.add, .int .i64 y.floor, .int .i64 y.most] 59 (0, 0)) := by rw [hX, hyb]; exact heap_alloc_new _ _
      have bX : Below W.heap.size W X := by rw [hX]; exact HF4.out.alloc HF4.out.size _
      have hyr : rb ≠ yb := by have := HF4.out.size; omega
      rw [← hX, ← hyb]
      obtain ⟨ry, hry⟩ : ∃ r, r = mright y := ⟨_, rfl⟩
      have ky : ∀ wx, Calls Try.prog 78 #[.agg #[.int .i64 y.add, .int .i64 y.floor, .int .i64 y.most]] wx fun e w' => e = .returned (.bool ry) ∧ Below wx.heap.size wx w' := fun wx => by rw [hry]; exact mpRight_any y wx
      have x0 : X.cell? ⟨yb, 0, none⟩ = some (.int .i64 y.add) := (cell_of_heap gX 0).trans rfl
      have x1 : X.cell? ⟨yb, 1, none⟩ = some (.int .i64 y.floor) := (cell_of_heap gX 1).trans rfl
      have x2 : X.cell? ⟨yb, 2, none⟩ = some (.int .i64 y.most) := (cell_of_heap gX 2).trans rfl
      have zx := heap_lt gX
      have HX := Lib.hid (And.intro gX (And.intro hry (And.intro ky (And.intro bX hyr))))
      clear gX hry ky bX hX hyb q0 q1 q2 r0 r1 r2 f0 f1 f2 d0 d1 d2 zr za zb
      cases ry
      · go_wp2_with (go_at_call 78; refine (HX.out.2.2.1 _).mono ?_; rintro e w5 ⟨rfl, c5'⟩; have c5 := HX.out.2.2.2.1.trans (c5'.mono HX.out.2.2.2.1.size); have hr := (H.out.2.1 w5 c5).2.2.1; have f0 := frozen_of_heap hr 0; have f1 := frozen_of_heap hr 1; have f2 := frozen_of_heap hr 2; have d0 := (cell_of_heap hr 0).trans rfl; have d1 := (cell_of_heap hr 1).trans rfl; have d2 := (cell_of_heap hr 2).trans rfl; have zr := heap_lt hr; have hy5 := (c5'.block _ (heap_lt HX.out.1)).trans HX.out.1; have y0 := (cell_of_heap hy5 0).trans rfl; have y1 := (cell_of_heap hy5 1).trans rfl; have y2 := (cell_of_heap hy5 2).trans rfl; have zy := heap_lt hy5; have HF5 := Lib.hid c5; clear hr hy5 c5 c5')
        refine bodyPost_ret (mp_results2 (r := 4) (s := 5) rfl (b := rb) (m := ⟨0, 0, 0⟩) (st3_heap' (H.out.2.1 w5 HF5.out).2.2.1 _ _ _) _ (.int .i64 6) rfl rfl) rfl ⟨?_, (((H.out.1.trans (HF5.out.mono H.out.1.size)).setCell hrw _).setCell hrw _).setCell hrw _⟩
        have e : joinE a m = 6 := by unfold joinE; rw [if_neg (by rw [← H.out.2.2.1, ← H.out.2.2.2.1]; decide), if_pos (by rw [← HJ.out.2]; exact HX.out.2.1.symm)]
        have e2 : joinV a m = ⟨0, 0, 0⟩ := by unfold joinV; rw [if_neg (by rw [e]; decide)]
        rw [e, e2]
      · go_wp2_with (go_at_call 78; refine (HX.out.2.2.1 _).mono ?_; rintro e w5 ⟨rfl, c5'⟩; have c5 := HX.out.2.2.2.1.trans (c5'.mono HX.out.2.2.2.1.size); have hr := (H.out.2.1 w5 c5).2.2.1; have f0 := frozen_of_heap hr 0; have f1 := frozen_of_heap hr 1; have f2 := frozen_of_heap hr 2; have d0 := (cell_of_heap hr 0).trans rfl; have d1 := (cell_of_heap hr 1).trans rfl; have d2 := (cell_of_heap hr 2).trans rfl; have zr := heap_lt hr; have hy5 := (c5'.block _ (heap_lt HX.out.1)).trans HX.out.1; have y0 := (cell_of_heap hy5 0).trans rfl; have y1 := (cell_of_heap hy5 1).trans rfl; have y2 := (cell_of_heap hy5 2).trans rfl; have zy := heap_lt hy5; have HF5 := Lib.hid c5; clear hr hy5 c5 c5')
        refine bodyPost_ret (mp_results2 (r := 4) (s := 5) rfl (b := rb) (m := y) (st3_heap' (H.out.2.1 w5 HF5.out).2.2.1 _ _ _) _ (.int .i64 0) rfl rfl) rfl ⟨?_, (((H.out.1.trans (HF5.out.mono H.out.1.size)).setCell hrw _).setCell hrw _).setCell hrw _⟩
        have e : joinE a m = 0 := by unfold joinE; rw [if_neg (by rw [← H.out.2.2.1, ← H.out.2.2.2.1]; decide), if_neg (by rw [← HJ.out.2, ← HX.out.2.1]; decide)]
        have e2 : joinV a m = y := by unfold joinV; rw [if_pos e, HJ.out.2]
        rw [e, e2]
end Go.Proofs.Ythmldeningpjbaa
/- polynyalaw09.Example (printed by wip/tools/ptexample.py) -/
namespace Go.Proofs.Ythmldeningpjbaa
open Go Go.RowKit Sp Pt
set_option linter.unusedVariables false
set_option linter.unusedSimpArgs false

def exPrt : Prt := ⟨[⟨10, 1, 25⟩], [⟨900, [0]⟩], 3⟩
def exPln : Pln := ⟨24, [⟨2, 0, false, 800, 60, 1⟩, ⟨20, 0, true, 800, 60, 1⟩], [⟨19, 0, 2⟩]⟩

set_option linter.unusedVariables false
def ExV (W0 : World) (b0 b1 b2 b4 b5 b6 b7 b8 : Nat) : Nat → Value → Prop
  | 0, v => v = .agg #[.slice (some ⟨b2, 0, none⟩) 1 1, .slice (some ⟨b4, 0, none⟩) 1 1, .int .i64 3]
  | 1, v => v = .agg #[.int .i64 24, .slice (some ⟨b6, 0, none⟩) 2 2, .slice (some ⟨b7, 0, none⟩) 1 1]
  | _, _ => True
def ExW (W0 : World) (b0 b1 b2 b4 b5 b6 b7 b8 : Nat) (l : Nat → Bool) (w : World) : Prop := Keep [b0, b1] W0 w ∧ w.heap[b0]? = some (.cells (if l 2 then #[.slice (some ⟨b2, 0, none⟩) 1 1, .slice (some ⟨b4, 0, none⟩) 1 1, .int .i64 3] else #[.slice none 0 0, .slice none 0 0, .int .i64 0]) 26 (0, 0)) ∧ w.heap[b1]? = some (.cells (if l 3 then #[.int .i64 24, .slice (some ⟨b6, 0, none⟩) 2 2, .slice (some ⟨b7, 0, none⟩) 1 1] else #[.int .i64 0, .slice none 0 0, .slice none 0 0]) 31 (0, 0))

theorem ex_results {F : Func} (hF : F.results = #[.cell 0 26, .cell 1 31]) {W : World} {b0 b1 : Nat} {u0 u1 u2 v0 v1 v2 : Value} (h : W.heap[b0]? = some (.cells #[u0, u1, u2] 26 (0, 0))) (h' : W.heap[b1]? = some (.cells #[v0, v1, v2] 31 (0, 0))) (tmps : Array Value) (hr : tmps.getD 0 undef = .pointer (some ⟨b0, 0, none⟩)) (hs : tmps.getD 1 undef = .pointer (some ⟨b1, 0, none⟩))
    (n0 : ∃ A n c, u0 = .slice A n c) (n1 : ∃ A n c, u1 = .slice A n c) (n2 : ∃ x, u2 = .int .i64 x) (m0 : ∃ x, v0 = .int .i64 x) (m1 : ∃ A n c, v1 = .slice A n c) (m2 : ∃ A n c, v2 = .slice A n c) :
    (results F tmps).run Try.prog W = .ok (.tuple #[.agg #[u0, u1, u2], .agg #[v0, v1, v2]]) W := by
  have g0 : tmps[0]?.getD undef = .pointer (some ⟨b0, 0, none⟩) := by simpa using hr
  have g1 : tmps[1]?.getD undef = .pointer (some ⟨b1, 0, none⟩) := by simpa using hs
  obtain ⟨_, _, _, rfl⟩ := n0
  obtain ⟨_, _, _, rfl⟩ := n1
  obtain ⟨_, rfl⟩ := n2
  obtain ⟨_, rfl⟩ := m0
  obtain ⟨_, _, _, rfl⟩ := m1
  obtain ⟨_, _, _, rfl⟩ := m2
  have c0 := (cell_of_heap h 0).trans rfl
  have c1 := (cell_of_heap h 1).trans rfl
  have c2 := (cell_of_heap h 2).trans rfl
  have d0 := (cell_of_heap h' 0).trans rfl
  have d1 := (cell_of_heap h' 1).trans rfl
  have d2 := (cell_of_heap h' 2).trans rfl
  simp [results, hF, g0, g1, asAddr, go_sem, c0, c1, c2, d0, d1, d2]

def ExPost (w : World) (e : Ending) (w' : World) : Prop :=
  ∃ b2 b3 b4 b6 b7, e = .returned (.tuple #[.agg (prtV (some ⟨b2, 0, none⟩) 1 (some ⟨b4, 0, none⟩) 1 exPrt), .agg (plnV (some ⟨b6, 0, none⟩) 2 (some ⟨b7, 0, none⟩) 1 exPln)]) ∧
    PrtB w'.heap.size w' (some ⟨b2, 0, none⟩) 1 (some ⟨b4, 0, none⟩) 1 exPrt ∧ PlnB w'.heap.size w' (some ⟨b6, 0, none⟩) 2 (some ⟨b7, 0, none⟩) 1 exPln ∧ w'.heap[b4]? = some (.cells #[.int .i64 900, .slice (some ⟨b3, 0, none⟩) 1 1] 53 (0, 0)) ∧ PathB w'.heap.size w' (some ⟨b3, 0, none⟩) 1 [0] ∧ (b2 < b3 ∧ b3 < b4 ∧ w.heap.size ≤ b2) ∧ Below w.heap.size w w'

set_option maxRecDepth 100000 in
set_option maxHeartbeats 4000000 in
theorem ExampleP_any (w : World) : Calls Try.prog 69 #[] w (ExPost w) := by
  go_enter Try.func69, Try.ntmps69
  go_upto_region 3 with fail
  obtain ⟨b0, e0⟩ : ∃ b, b = w.heap.size := ⟨_, rfl⟩
  obtain ⟨b1, e1⟩ : ∃ b, b = w.heap.size + 1 := ⟨_, rfl⟩
  obtain ⟨b2, e2⟩ : ∃ b, b = w.heap.size + 1 + 1 := ⟨_, rfl⟩
  obtain ⟨b3, e3⟩ : ∃ b, b = w.heap.size + 1 + 1 + 1 := ⟨_, rfl⟩
  obtain ⟨b4, e4⟩ : ∃ b, b = w.heap.size + 1 + 1 + 1 + 1 := ⟨_, rfl⟩
  obtain ⟨b5, e5⟩ : ∃ b, b = w.heap.size + 1 + 1 + 1 + 1 + 1 := ⟨_, rfl⟩
  obtain ⟨b6, e6⟩ : ∃ b, b = w.heap.size + 1 + 1 + 1 + 1 + 1 + 1 := ⟨_, rfl⟩
  obtain ⟨b7, e7⟩ : ∃ b, b = w.heap.size + 1 + 1 + 1 + 1 + 1 + 1 + 1 := ⟨_, rfl⟩
  obtain ⟨b8, e8⟩ : ∃ b, b = w.heap.size + 1 + 1 + 1 + 1 + 1 + 1 + 1 + 1 := ⟨_, rfl⟩
  rw [← e8]
  rw [← e7]
  rw [← e6]
  rw [← e5]
  rw [← e4]
  rw [← e3]
  rw [← e2]
  rw [← e1]
  rw [← e0]
  obtain ⟨W1, x1⟩ : ∃ W, W = w.alloc (.cells #[.slice none 0 0, .slice none 0 0, .int .i64 0] 26) := ⟨_, rfl⟩
  rw [← x1]
  obtain ⟨W2, x2⟩ : ∃ W, W = W1.alloc (.cells #[.int .i64 0, .slice none 0 0, .slice none 0 0] 31) := ⟨_, rfl⟩
  rw [← x2]
  obtain ⟨W3, x3⟩ : ∃ W, W = W2.alloc (.cells #[.int .i64 10, .int .i64 1, .int .i64 25] 144) := ⟨_, rfl⟩
  rw [← x3]
  obtain ⟨W4, x4⟩ : ∃ W, W = W3.alloc (.cells #[.int .i64 0] 3) := ⟨_, rfl⟩
  rw [← x4]
  obtain ⟨W5, x5⟩ : ∃ W, W = W4.alloc (.cells #[.int .i64 900, .slice (some ⟨b3, 0, none⟩) 1 1] 53) := ⟨_, rfl⟩
  rw [← x5]
  obtain ⟨W6, x6⟩ : ∃ W, W = W5.alloc (.cells #[.slice (some ⟨b2, 0, none⟩) 1 1, .slice (some ⟨b4, 0, none⟩) 1 1, .int .i64 3] 26) := ⟨_, rfl⟩
  rw [← x6]
  obtain ⟨W7, x7⟩ : ∃ W, W = W6.alloc (.cells #[.int .i64 2, .int .i64 0, .bool false, .int .i64 800, .int .i64 60, .int .i64 1, .int .i64 20, .int .i64 0, .bool true, .int .i64 800, .int .i64 60, .int .i64 1] 55) := ⟨_, rfl⟩
  rw [← x7]
  obtain ⟨W8, x8⟩ : ∃ W, W = W7.alloc (.cells #[.int .i64 19, .int .i64 0, .int .i64 2] 126) := ⟨_, rfl⟩
  rw [← x8]
  obtain ⟨W9, x9⟩ : ∃ W, W = W8.alloc (.cells #[.int .i64 24, .slice (some ⟨b6, 0, none⟩) 2 2, .slice (some ⟨b7, 0, none⟩) 1 1] 31) := ⟨_, rfl⟩
  rw [← x9]
  have s1 : W1.heap.size = w.heap.size + 1 := by rw [x1, World.size_alloc]
  have h0 : W1.heap[b0]? = some (.cells #[.slice none 0 0, .slice none 0 0, .int .i64 0] 26 (0, 0)) := by rw [x1, show b0 = w.heap.size from by omega]; exact heap_alloc_new _ _
  replace h0 := heap_alloc' h0 (.cells #[.int .i64 0, .slice none 0 0, .slice none 0 0] 31)
  rw [← x2] at h0
  replace h0 := heap_alloc' h0 (.cells #[.int .i64 10, .int .i64 1, .int .i64 25] 144)
  rw [← x3] at h0
  replace h0 := heap_alloc' h0 (.cells #[.int .i64 0] 3)
  rw [← x4] at h0
  replace h0 := heap_alloc' h0 (.cells #[.int .i64 900, .slice (some ⟨b3, 0, none⟩) 1 1] 53)
  rw [← x5] at h0
  replace h0 := heap_alloc' h0 (.cells #[.slice (some ⟨b2, 0, none⟩) 1 1, .slice (some ⟨b4, 0, none⟩) 1 1, .int .i64 3] 26)
  rw [← x6] at h0
  replace h0 := heap_alloc' h0 (.cells #[.int .i64 2, .int .i64 0, .bool false, .int .i64 800, .int .i64 60, .int .i64 1, .int .i64 20, .int .i64 0, .bool true, .int .i64 800, .int .i64 60, .int .i64 1] 55)
  rw [← x7] at h0
  replace h0 := heap_alloc' h0 (.cells #[.int .i64 19, .int .i64 0, .int .i64 2] 126)
  rw [← x8] at h0
  replace h0 := heap_alloc' h0 (.cells #[.int .i64 24, .slice (some ⟨b6, 0, none⟩) 2 2, .slice (some ⟨b7, 0, none⟩) 1 1] 31)
  rw [← x9] at h0
  have s2 : W2.heap.size = W1.heap.size + 1 := by rw [x2, World.size_alloc]
  have h1 : W2.heap[b1]? = some (.cells #[.int .i64 0, .slice none 0 0, .slice none 0 0] 31 (0, 0)) := by rw [x2, show b1 = W1.heap.size from by omega]; exact heap_alloc_new _ _
  replace h1 := heap_alloc' h1 (.cells #[.int .i64 10, .int .i64 1, .int .i64 25] 144)
  rw [← x3] at h1
  replace h1 := heap_alloc' h1 (.cells #[.int .i64 0] 3)
  rw [← x4] at h1
  replace h1 := heap_alloc' h1 (.cells #[.int .i64 900, .slice (some ⟨b3, 0, none⟩) 1 1] 53)
  rw [← x5] at h1
  replace h1 := heap_alloc' h1 (.cells #[.slice (some ⟨b2, 0, none⟩) 1 1, .slice (some ⟨b4, 0, none⟩) 1 1, .int .i64 3] 26)
  rw [← x6] at h1
  replace h1 := heap_alloc' h1 (.cells #[.int .i64 2, .int .i64 0, .bool false, .int .i64 800, .int .i64 60, .int .i64 1, .int .i64 20, .int .i64 0, .bool true, .int .i64 800, .int .i64 60, .int .i64 1] 55)
  rw [← x7] at h1
  replace h1 := heap_alloc' h1 (.cells #[.int .i64 19, .int .i64 0, .int .i64 2] 126)
  rw [← x8] at h1
  replace h1 := heap_alloc' h1 (.cells #[.int .i64 24, .slice (some ⟨b6, 0, none⟩) 2 2, .slice (some ⟨b7, 0, none⟩) 1 1] 31)
  rw [← x9] at h1
  have s3 : W3.heap.size = W2.heap.size + 1 := by rw [x3, World.size_alloc]
  have h2 : W3.heap[b2]? = some (.cells #[.int .i64 10, .int .i64 1, .int .i64 25] 144 (0, 0)) := by rw [x3, show b2 = W2.heap.size from by omega]; exact heap_alloc_new _ _
  replace h2 := heap_alloc' h2 (.cells #[.int .i64 0] 3)
  rw [← x4] at h2
  replace h2 := heap_alloc' h2 (.cells #[.int .i64 900, .slice (some ⟨b3, 0, none⟩) 1 1] 53)
  rw [← x5] at h2
  replace h2 := heap_alloc' h2 (.cells #[.slice (some ⟨b2, 0, none⟩) 1 1, .slice (some ⟨b4, 0, none⟩) 1 1, .int .i64 3] 26)
  rw [← x6] at h2
  replace h2 := heap_alloc' h2 (.cells #[.int .i64 2, .int .i64 0, .bool false, .int .i64 800, .int .i64 60, .int .i64 1, .int .i64 20, .int .i64 0, .bool true, .int .i64 800, .int .i64 60, .int .i64 1] 55)
  rw [← x7] at h2
  replace h2 := heap_alloc' h2 (.cells #[.int .i64 19, .int .i64 0, .int .i64 2] 126)
  rw [← x8] at h2
  replace h2 := heap_alloc' h2 (.cells #[.int .i64 24, .slice (some ⟨b6, 0, none⟩) 2 2, .slice (some ⟨b7, 0, none⟩) 1 1] 31)
  rw [← x9] at h2
  have s4 : W4.heap.size = W3.heap.size + 1 := by rw [x4, World.size_alloc]
  have h3 : W4.heap[b3]? = some (.cells #[.int .i64 0] 3 (0, 0)) := by rw [x4, show b3 = W3.heap.size from by omega]; exact heap_alloc_new _ _
  replace h3 := heap_alloc' h3 (.cells #[.int .i64 900, .slice (some ⟨b3, 0, none⟩) 1 1] 53)
  rw [← x5] at h3
  replace h3 := heap_alloc' h3 (.cells #[.slice (some ⟨b2, 0, none⟩) 1 1, .slice (some ⟨b4, 0, none⟩) 1 1, .int .i64 3] 26)
  rw [← x6] at h3
  replace h3 := heap_alloc' h3 (.cells #[.int .i64 2, .int .i64 0, .bool false, .int .i64 800, .int .i64 60, .int .i64 1, .int .i64 20, .int .i64 0, .bool true, .int .i64 800, .int .i64 60, .int .i64 1] 55)
  rw [← x7] at h3
  replace h3 := heap_alloc' h3 (.cells #[.int .i64 19, .int .i64 0, .int .i64 2] 126)
  rw [← x8] at h3
  replace h3 := heap_alloc' h3 (.cells #[.int .i64 24, .slice (some ⟨b6, 0, none⟩) 2 2, .slice (some ⟨b7, 0, none⟩) 1 1] 31)
  rw [← x9] at h3
  have s5 : W5.heap.size = W4.heap.size + 1 := by rw [x5, World.size_alloc]
  have h4 : W5.heap[b4]? = some (.cells #[.int .i64 900, .slice (some ⟨b3, 0, none⟩) 1 1] 53 (0, 0)) := by rw [x5, show b4 = W4.heap.size from by omega]; exact heap_alloc_new _ _
  replace h4 := heap_alloc' h4 (.cells #[.slice (some ⟨b2, 0, none⟩) 1 1, .slice (some ⟨b4, 0, none⟩) 1 1, .int .i64 3] 26)
  rw [← x6] at h4
  replace h4 := heap_alloc' h4 (.cells #[.int .i64 2, .int .i64 0, .bool false, .int .i64 800, .int .i64 60, .int .i64 1, .int .i64 20, .int .i64 0, .bool true, .int .i64 800, .int .i64 60, .int .i64 1] 55)
  rw [← x7] at h4
  replace h4 := heap_alloc' h4 (.cells #[.int .i64 19, .int .i64 0, .int .i64 2] 126)
  rw [← x8] at h4
  replace h4 := heap_alloc' h4 (.cells #[.int .i64 24, .slice (some ⟨b6, 0, none⟩) 2 2, .slice (some ⟨b7, 0, none⟩) 1 1] 31)
  rw [← x9] at h4
  have s6 : W6.heap.size = W5.heap.size + 1 := by rw [x6, World.size_alloc]
  have h5 : W6.heap[b5]? = some (.cells #[.slice (some ⟨b2, 0, none⟩) 1 1, .slice (some ⟨b4, 0, none⟩) 1 1, .int .i64 3] 26 (0, 0)) := by rw [x6, show b5 = W5.heap.size from by omega]; exact heap_alloc_new _ _
  replace h5 := heap_alloc' h5 (.cells #[.int .i64 2, .int .i64 0, .bool false, .int .i64 800, .int .i64 60, .int .i64 1, .int .i64 20, .int .i64 0, .bool true, .int .i64 800, .int .i64 60, .int .i64 1] 55)
  rw [← x7] at h5
  replace h5 := heap_alloc' h5 (.cells #[.int .i64 19, .int .i64 0, .int .i64 2] 126)
  rw [← x8] at h5
  replace h5 := heap_alloc' h5 (.cells #[.int .i64 24, .slice (some ⟨b6, 0, none⟩) 2 2, .slice (some ⟨b7, 0, none⟩) 1 1] 31)
  rw [← x9] at h5
  have s7 : W7.heap.size = W6.heap.size + 1 := by rw [x7, World.size_alloc]
  have h6 : W7.heap[b6]? = some (.cells #[.int .i64 2, .int .i64 0, .bool false, .int .i64 800, .int .i64 60, .int .i64 1, .int .i64 20, .int .i64 0, .bool true, .int .i64 800, .int .i64 60, .int .i64 1] 55 (0, 0)) := by rw [x7, show b6 = W6.heap.size from by omega]; exact heap_alloc_new _ _
  replace h6 := heap_alloc' h6 (.cells #[.int .i64 19, .int .i64 0, .int .i64 2] 126)
  rw [← x8] at h6
  replace h6 := heap_alloc' h6 (.cells #[.int .i64 24, .slice (some ⟨b6, 0, none⟩) 2 2, .slice (some ⟨b7, 0, none⟩) 1 1] 31)
  rw [← x9] at h6
  have s8 : W8.heap.size = W7.heap.size + 1 := by rw [x8, World.size_alloc]
  have h7 : W8.heap[b7]? = some (.cells #[.int .i64 19, .int .i64 0, .int .i64 2] 126 (0, 0)) := by rw [x8, show b7 = W7.heap.size from by omega]; exact heap_alloc_new _ _
  replace h7 := heap_alloc' h7 (.cells #[.int .i64 24, .slice (some ⟨b6, 0, none⟩) 2 2, .slice (some ⟨b7, 0, none⟩) 1 1] 31)
  rw [← x9] at h7
  have s9 : W9.heap.size = W8.heap.size + 1 := by rw [x9, World.size_alloc]
  have h8 : W9.heap[b8]? = some (.cells #[.int .i64 24, .slice (some ⟨b6, 0, none⟩) 2 2, .slice (some ⟨b7, 0, none⟩) 1 1] 31 (0, 0)) := by rw [x9, show b8 = W8.heap.size from by omega]; exact heap_alloc_new _ _
  have bb : Below w.heap.size w W9 := by
    rw [x9, x8, x7, x6, x5, x4, x3, x2, x1]
    exact ((((((((((Below.refl _ _).alloc (Nat.le_refl _) _).alloc (by simp <;> omega) _).alloc (by simp <;> omega) _).alloc (by simp <;> omega) _).alloc (by simp <;> omega) _).alloc (by simp <;> omega) _).alloc (by simp <;> omega) _).alloc (by simp <;> omega) _).alloc (by simp <;> omega) _)
  have hord : b0 < b1 ∧ b1 < b2 ∧ b2 < b3 ∧ b3 < b4 ∧ b4 < b5 ∧ b5 < b6 ∧ b6 < b7 ∧ b7 < b8 ∧ w.heap.size = b0 := by omega
  have qp0 : W9.cell? ⟨b5, 0, none⟩ = some (.slice (some ⟨b2, 0, none⟩) 1 1) := (cell_of_heap h5 0).trans rfl
  have qp1 : W9.cell? ⟨b5, 1, none⟩ = some (.slice (some ⟨b4, 0, none⟩) 1 1) := (cell_of_heap h5 1).trans rfl
  have qp2 : W9.cell? ⟨b5, 2, none⟩ = some (.int .i64 3) := (cell_of_heap h5 2).trans rfl
  have ql0 : W9.cell? ⟨b8, 0, none⟩ = some (.int .i64 24) := (cell_of_heap h8 0).trans rfl
  have ql1 : W9.cell? ⟨b8, 1, none⟩ = some (.slice (some ⟨b6, 0, none⟩) 2 2) := (cell_of_heap h8 1).trans rfl
  have ql2 : W9.cell? ⟨b8, 2, none⟩ = some (.slice (some ⟨b7, 0, none⟩) 1 1) := (cell_of_heap h8 2).trans rfl
  have z5 := heap_lt h5
  have z8 := heap_lt h8
  have H := Lib.hid (And.intro h2 (And.intro h3 (And.intro h4 (And.intro h6 (And.intro h7 bb)))))
  clear e0 e1 e2 e3 e4 e5 e6 e7 e8 x1 x2 x3 x4 x5 x6 x7 x8 x9 s1 s2 s3 s4 s5 s6 s7 s8 s9 h2 h3 h4 h5 h6 h7 h8 bb
  refine wp_region_steps (σ := Unit) (by kernel_rfl) (by kernel_rfl) (fun _ jx vx _ => ExV W9 b0 b1 b2 b4 b5 b6 b7 b8 jx vx) (fun _ ly wx => ExW W9 b0 b1 b2 b4 b5 b6 b7 b8 ly wx) () ?_ ?_ ?_
  · exact ⟨(Keep.refl _ _).drew, h0, h1⟩
  · simp only [AllFrom, Nat.zero_add, Nat.reduceAdd]
    refine ⟨?_, ?_, ?_, ?_, trivial⟩
    · refine step_pure fun sg ly a wr hl hd hW hF => ?_
      have et2 := hF.old 2 (by kernel_rfl)
      simp [Act.eval] at et2
      have c0 := hW.1.cell qp0 (by simp; omega)
      have c1 := hW.1.cell qp1 (by simp; omega)
      have c2 := hW.1.cell qp2 (by simp; omega)
      exact ⟨by simpa [ExW, upd] using hW, .agg #[.slice (some ⟨b2, 0, none⟩) 1 1, .slice (some ⟨b4, 0, none⟩) 1 1, .int .i64 3], by go_simp, rfl⟩
    · refine step_pure fun sg ly a wr hl hd hW hF => ?_
      have et3 := hF.old 3 (by kernel_rfl)
      simp [Act.eval] at et3
      have c0 := hW.1.cell ql0 (by simp; omega)
      have c1 := hW.1.cell ql1 (by simp; omega)
      have c2 := hW.1.cell ql2 (by simp; omega)
      exact ⟨by simpa [ExW, upd] using hW, .agg #[.int .i64 24, .slice (some ⟨b6, 0, none⟩) 2 2, .slice (some ⟨b7, 0, none⟩) 1 1], by go_simp, rfl⟩
    · refine step_store rfl fun sg ly a wr hl hd hW hF => ?_
      simp [Region.binds] at hd
      have et0 := hF.old 0 (by kernel_rfl)
      simp [Act.eval] at et0
      have et16 := hF.new 0 16 (by simp [hd]) rfl
      simp [ExV, Act.eval] at et16
      obtain ⟨h0, h1, h2⟩ := hW
      rw [if_neg (by simp [hl])] at h1
      have c0 := (cell_of_heap h1 0).trans rfl
      have c1 := (cell_of_heap h1 1).trans rfl
      have c2 := (cell_of_heap h1 2).trans rfl
      have f0 := frozen_of_heap h1 0
      have f1 := frozen_of_heap h1 1
      have f2 := frozen_of_heap h1 2
      have z0 := heap_lt h1
      refine ⟨((wr.setCell ⟨b0, 0, none⟩ (.slice (some ⟨b2, 0, none⟩) 1 1)).setCell ⟨b0, 1, none⟩ (.slice (some ⟨b4, 0, none⟩) 1 1)).setCell ⟨b0, 2, none⟩ (.int .i64 3), (), .skip, by go_simp, .inl rfl, ⟨((h0.setCell (.inl (by simp)) _).setCell (.inl (by simp)) _).setCell (.inl (by simp)) _, by rw [if_pos (by simp [upd])]; exact st3_heap' h1 _ _ _, heap_set_ne (heap_set_ne (heap_set_ne h2 (by simp only; omega) _) (by simp only; omega) _) (by simp only; omega) _⟩, fun _ _ _ h => h⟩
    · refine step_store rfl fun sg ly a wr hl hd hW hF => ?_
      simp [Region.binds] at hd
      have et1 := hF.old 1 (by kernel_rfl)
      simp [Act.eval] at et1
      have et17 := hF.new 1 17 (by simp [hd]) rfl
      simp [ExV, Act.eval] at et17
      obtain ⟨h0, h1, h2⟩ := hW
      rw [if_neg (by simp [hl])] at h2
      have c0 := (cell_of_heap h2 0).trans rfl
      have c1 := (cell_of_heap h2 1).trans rfl
      have c2 := (cell_of_heap h2 2).trans rfl
      have f0 := frozen_of_heap h2 0
      have f1 := frozen_of_heap h2 1
      have f2 := frozen_of_heap h2 2
      have z0 := heap_lt h2
      refine ⟨((wr.setCell ⟨b1, 0, none⟩ (.int .i64 24)).setCell ⟨b1, 1, none⟩ (.slice (some ⟨b6, 0, none⟩) 2 2)).setCell ⟨b1, 2, none⟩ (.slice (some ⟨b7, 0, none⟩) 1 1), (), .skip, by go_simp, .inl rfl, ⟨((h0.setCell (.inl (by simp)) _).setCell (.inl (by simp)) _).setCell (.inl (by simp)) _, heap_set_ne (heap_set_ne (heap_set_ne h1 (by simp only; omega) _) (by simp only; omega) _) (by simp only; omega) _, by rw [if_pos (by simp [upd])]; exact st3_heap' h2 _ _ _⟩, fun _ _ _ h => h⟩
  intro _ a w3 hWW hF
  obtain ⟨f3, hf3, rfl⟩ := hF.lit
  obtain ⟨k3, r0, r1⟩ : Keep [b0, b1] W9 w3 ∧ w3.heap[b0]? = some (.cells #[.slice (some ⟨b2, 0, none⟩) 1 1, .slice (some ⟨b4, 0, none⟩) 1 1, .int .i64 3] 26 (0, 0)) ∧ w3.heap[b1]? = some (.cells #[.int .i64 24, .slice (some ⟨b6, 0, none⟩) 2 2, .slice (some ⟨b7, 0, none⟩) 1 1] 31 (0, 0)) := by simpa [ExW] using hWW
  clear hf3 hF hWW
  simp only [List.filterMap, List.foldl, List.setIfInBounds_toArray, List.set_cons_succ, List.set_cons_zero]
  have HK := Lib.hid (And.intro k3 (And.intro r0 r1))
  clear k3 r0 r1
  go_wp2_with fail
  refine bodyPost_ret (ex_results rfl HK.out.2.1 HK.out.2.2 _ rfl rfl ⟨_, _, _, rfl⟩ ⟨_, _, _, rfl⟩ ⟨_, rfl⟩ ⟨_, rfl⟩ ⟨_, _, _, rfl⟩ ⟨_, _, _, rfl⟩) rfl ?_
  obtain ⟨h2, h3, h4, h6, h7, bb⟩ := H.out
  have K : ∀ {x : Nat} {o : Obj}, W9.heap[x]? = some o → x ≠ b0 → x ≠ b1 → w3.heap[x]? = some o := fun hx n0 n1 => (HK.out.1.block _ (heap_lt hx) (by simp; exact ⟨n0, n1⟩)).trans hx
  have g2 := K h2 (by omega) (by omega)
  have g3 := K h3 (by omega) (by omega)
  have g4 := K h4 (by omega) (by omega)
  have g6 := K h6 (by omega) (by omega)
  have g7 := K h7 (by omega) (by omega)
  have hpath : PathB w3.heap.size w3 (some ⟨b3, 0, none⟩) 1 [0] := ⟨⟨rfl, fun _ => ⟨b3, 0, rfl, heap_lt g3, fun j u hu => (cell_of_heap g3 _).trans (by simpa [ints] using hu)⟩⟩, by simp, by decide, by simp⟩
  refine ⟨b2, b3, b4, b6, b7, rfl, ⟨⟨rfl, fun _ => ⟨b2, 0, rfl, heap_lt g2, fun j u hu => (cell_of_heap g2 _).trans (by simpa [exPrt, chcs, chc] using hu)⟩⟩, ?_, ⟨by decide, by decide, by simp⟩, ⟨by decide, by decide, by simp⟩⟩, ⟨⟨rfl, fun _ => ⟨b6, 0, rfl, heap_lt g6, fun j u hu => (cell_of_heap g6 _).trans (by simpa [exPln, cacs, cac] using hu)⟩⟩, ⟨rfl, fun _ => ⟨b7, 0, rfl, heap_lt g7, fun j u hu => (cell_of_heap g7 _).trans (by simpa [exPln, swcs, swc] using hu)⟩⟩, ⟨by decide, by decide, by simp⟩, ⟨by decide, by decide, by simp⟩⟩, g4, hpath, ⟨by omega, by omega, by omega⟩, bb.trans (HK.out.1.below bb.size (by simp; omega))⟩
  intro k hk
  obtain rfl : k = 0 := by simp [exPrt] at hk; omega
  exact ⟨b4, 0, some ⟨b3, 0, none⟩, 1, rfl, heap_lt g4, (cell_of_heap g4 0).trans rfl, (cell_of_heap g4 1).trans rfl, ⟨rfl, fun _ => ⟨b3, 0, rfl, heap_lt g3, fun j u hu => (cell_of_heap g3 _).trans (by simpa [exPrt, ints] using hu)⟩⟩, by simp [exPrt], by decide, by simp⟩
end Go.Proofs.Ythmldeningpjbaa
