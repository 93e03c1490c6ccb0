/- polynyalaw09.PortForever (printed by wip/tools/ptforever.py) -/
import Derived.Test.YthmldeningpjbaaPFp14
import Derived.Test.YthmldeningpjbaaPFp15
import Derived.Test.YthmldeningpjbaaPFp16
import Derived.Test.YthmldeningpjbaaPFp25
import Derived.Test.YthmldeningpjbaaPFp26
import Derived.Test.YthmldeningpjbaaPFp31
import Derived.Test.YthmldeningpjbaaPFp37
import Derived.Test.YthmldeningpjbaaPFp39
import Derived.Test.YthmldeningpjbaaPFp3
set_option linter.unusedVariables false
set_option linter.unusedSimpArgs false
namespace Go.Proofs.Ythmldeningpjbaa
open Go Go.RowKit Sp Pt
set_option linter.unusedVariables false
set_option linter.unusedSimpArgs false

structure Cp3 where
  Ac : Option Addr
  cc : Nat
  Ab : Option Addr
  cb : Nat
  q1 : List Nat
  Ar : Option Addr
  cr : Nat
  Au : Option Addr
  cu : Nat
  q2 : List Nat
  Al : Option Addr
  cl : Nat
  As : Option Addr
  cs : Nat
  q3 : List Nat
  xb : Nat
  zb : Nat
  yb : Nat

set_option linter.unusedVariables false
def FvkV (Ac : Option Addr) (cc : Nat) (Ab : Option Addr) (cb : Nat) (p : Prt) (Ar : Option Addr) (cr : Nat) (Au : Option Addr) (cu : Nat) (st : Stt) (Al : Option Addr) (cl : Nat) (As : Option Addr) (cs : Nat) (l : Pln) (s : Cp3) : Nat → Value → Prop
  | 0, v => v = .agg (prtV Ac cc Ab cb p)
  | 1, v => v = .agg (prtV s.Ac s.cc s.Ab s.cb p)
  | 2, v => v = .agg (sttV Ar cr Au cu st)
  | 3, v => v = .agg (sttV s.Ar s.cr s.Au s.cu st)
  | 4, v => v = .agg (plnV Al cl As cs l)
  | 5, v => v = .agg (plnV s.Al s.cl s.As s.cs l)
  | 6, v => v = .pointer (some ⟨s.xb, 0, none⟩)
  | 7, v => v = .pointer (some ⟨s.zb, 0, none⟩)
  | 8, v => v = .pointer (some ⟨s.yb, 0, none⟩)
  | _, _ => True
set_option linter.unusedVariables false
def FvmV (Ac : Option Addr) (cc : Nat) (Ab : Option Addr) (cb : Nat) (p : Prt) (Ar : Option Addr) (cr : Nat) (Au : Option Addr) (cu : Nat) (st : Stt) (Al : Option Addr) (cl : Nat) (As : Option Addr) (cs : Nat) (l : Pln) (s : Cp3) : Nat → Value → Prop
  | 0, v => v = .agg (prtV Ac cc Ab cb p)
  | 1, v => v = .agg (prtV s.Ac s.cc s.Ab s.cb p)
  | 2, v => v = .agg (sttV Ar cr Au cu st)
  | 3, v => v = .agg (sttV s.Ar s.cr s.Au s.cu st)
  | 4, v => v = .agg (plnV Al cl As cs l)
  | 5, v => v = .agg (plnV s.Al s.cl s.As s.cs l)
  | 6, v => v = .pointer (some ⟨s.xb, 0, none⟩)
  | 7, v => v = .pointer (some ⟨s.zb, 0, none⟩)
  | 8, v => v = .pointer (some ⟨s.yb, 0, none⟩)
  | _, _ => True

set_option maxRecDepth 100000 in
set_option maxHeartbeats 40000000 in
theorem portForever_any (Ac : Option Addr) (cc : Nat) (Ab : Option Addr) (cb : Nat) (p : Prt) (Ar : Option Addr) (cr : Nat) (Au : Option Addr) (cu : Nat) (st : Stt) (Al : Option Addr) (cl : Nat) (As : Option Addr) (cs : Nat) (l : Pln) (w : World) (PB : PrtB w.heap.size w Ac cc Ab cb p) (SB : SttB w.heap.size w Ar cr Au cu st) (LB : PlnB w.heap.size w Al cl As cs l) :
    Calls Try.prog 6 #[.agg (prtV Ac cc Ab cb p), .agg (sttV Ar cr Au cu st), .agg (plnV Al cl As cs l)] w fun e w' => e = .returned (.bool true) ∧ Below w.heap.size w w' := by
  obtain ⟨W, hW⟩ : ∃ W, W = ((w.alloc (.cells (prtV Ac cc Ab cb p) 26)).alloc (.cells (sttV Ar cr Au cu st) 42)).alloc (.cells (plnV Al cl As cs l) 31) := ⟨_, rfl⟩
  obtain ⟨pb, hpb⟩ : ∃ b, b = w.heap.size := ⟨_, rfl⟩
  obtain ⟨sb, hsb⟩ : ∃ b, b = w.heap.size + 1 := ⟨_, rfl⟩
  obtain ⟨lb, hlb⟩ : ∃ b, b = w.heap.size + 1 + 1 := ⟨_, rfl⟩
  have O0 : Own w.heap.size w [It.blk pb (.cells (prtV Ac cc Ab cb p) 26), It.blk sb (.cells (sttV Ar cr Au cu st) 42), It.blk lb (.cells (plnV Al cl As cs l) 31)] W := by
    have h := (((Own.start w).alloc (.cells (prtV Ac cc Ab cb p) 26)).alloc (.cells (sttV Ar cr Au cu st) 42)).alloc (.cells (plnV Al cl As cs l) 31)
    rw [hW, hpb, hsb, hlb]
    simpa using h
  have c0 := (cell_of_heap (O0.heap 0 rfl) 0).trans rfl
  have c1 := (cell_of_heap (O0.heap 0 rfl) 1).trans rfl
  have c2 := (cell_of_heap (O0.heap 0 rfl) 2).trans rfl
  have c3 := (cell_of_heap (O0.heap 1 rfl) 0).trans rfl
  have c4 := (cell_of_heap (O0.heap 1 rfl) 1).trans rfl
  have c5 := (cell_of_heap (O0.heap 2 rfl) 0).trans rfl
  have c6 := (cell_of_heap (O0.heap 2 rfl) 1).trans rfl
  have c7 := (cell_of_heap (O0.heap 2 rfl) 2).trans rfl
  have z0 := heap_lt (O0.heap 0 rfl)
  have z1 := heap_lt (O0.heap 1 rfl)
  have z2 := heap_lt (O0.heap 2 rfl)
  obtain ⟨hv, hhv⟩ : ∃ hv, hv = heavyB p l st.brash.length st.busy.length := ⟨_, rfl⟩
  have kh : Calls Try.prog 30 #[.agg (prtV Ac cc Ab cb p), .agg (plnV Al cl As cs l), .agg (sttV Ar cr Au cu st)] W fun e w' => e = .returned (.bool hv) ∧ Below W.heap.size W w' := by rw [hhv]; exact heavy_any w.heap.size Ac cc Ab cb p Al cl As cs l Ar st.brash.length cr Au st.busy.length cu W (PB.below O0.bel) O0.lo
  have H0 := Lib.hid (And.intro O0 (And.intro hhv (And.intro kh (And.intro PB (And.intro SB LB)))))
  clear O0 hhv kh PB LB SB
  go_enter Try.func6, Try.ntmps6
  go_upto_region 1 with fail
  rw [← hW, ← hlb, ← hsb, ← hpb]
  clear hW hlb hsb hpb
  cases hv
  · have hlg := heavy_no H0.out.2.1.symm
    have HL := Lib.hid hlg
    clear hlg
    go_upto_region 3 with (go_at_call 30; refine H0.out.2.2.1.mono ?_; rintro e w1 ⟨rfl, hb⟩; have H1 := Lib.hid (H0.out.1.below hb); clear hb c0 c1 c2 c3 c4 c5 c6 c7 z0 z1 z2)
    obtain ⟨-, -, -, PB, SB, LB⟩ := H0.out
    have kcp : ∀ wx, Below w.heap.size w wx → Calls Try.prog 31 #[.agg (prtV Ac cc Ab cb p)] wx (NewPrt wx p) := fun wx hb => copyPort_any w.heap.size Ac cc Ab cb p wx (PB.below hb) hb.size (by have := HL.out.1.n1; omega) (by have := HL.out.1.n2; omega) (fun x hx => by have := HL.out.1.n3 x hx; omega)
    have kcl : ∀ wx, Below w.heap.size w wx → Calls Try.prog 33 #[.agg (plnV Al cl As cs l)] wx (NewPln wx l) := fun wx hb => copyPlan_any w.heap.size Al cl As cs l wx (LB.below hb) hb.size (by have := HL.out.1.n4; omega) (by have := HL.out.1.n5; omega)
    have kcs : ∀ wx, Below w.heap.size w wx → Calls Try.prog 32 #[.agg (sttV Ar cr Au cu st)] wx (NewStt wx st) := fun wx hb => copyState_any Ar cr Au cu st wx ((SB.below hb).mono hb.size) (by have := HL.out.2; omega)
    have kp : ∀ wx, Below w.heap.size w wx → Calls Try.prog 34 #[.agg (prtV Ac cc Ab cb p)] wx (NewPrt wx p) := fun wx hb => portR_any Ac cc Ab cb p wx ((PB.below hb).mono hb.size) (by have := HL.out.1.n1; omega) (by have := HL.out.1.n2; omega) (fun x hx => by have := HL.out.1.n3 x hx; omega)
    have kl : ∀ wx, Below w.heap.size w wx → Calls Try.prog 35 #[.agg (plnV Al cl As cs l)] wx (NewPln wx l) := fun wx hb => planR_any Al cl As cs l wx ((LB.below hb).mono hb.size) (by have := HL.out.1.n4; omega) (by have := HL.out.1.n5; omega)
    have HC := Lib.hid (And.intro kcp (And.intro kcs kcl))
    have HD := Lib.hid (And.intro kp (And.intro kcs kl))
    clear PB LB SB kcp kcl kp kl kcs
    refine wp_region_steps (σ := Cp3) (by kernel_rfl) (by kernel_rfl) (fun sg jx vx _ => FvkV Ac cc Ab cb p Ar cr Au cu st Al cl As cs l sg jx vx) (fun sg ly wx => Own w.heap.size w [It.blk pb (.cells (prtV Ac cc Ab cb p) 26), It.blk sb (.cells (sttV Ar cr Au cu st) 42), It.blk lb (.cells (plnV Al cl As cs l) 31), if ly 1 = true then It.gen sg.q1 (PrtH sg.Ac sg.cc sg.Ab sg.cb p) else noIt, if ly 3 = true then It.gen sg.q2 (SttH sg.Ar sg.cr sg.Au sg.cu st) else noIt, if ly 5 = true then It.gen sg.q3 (PlnH sg.Al sg.cl sg.As sg.cs l) else noIt, if ly 6 = true then It.blk sg.xb (.cells (if ly 9 = true then prtV sg.Ac sg.cc sg.Ab sg.cb p else #[.slice none 0 0, .slice none 0 0, .int .i64 0]) 26) else noIt, if ly 7 = true then It.blk sg.zb (.cells (if ly 10 = true then sttV sg.Ar sg.cr sg.Au sg.cu st else #[.slice none 0 0, .slice none 0 0]) 42) else noIt, if ly 8 = true then It.blk sg.yb (.cells (if ly 11 = true then plnV sg.Al sg.cl sg.As sg.cs l else #[.int .i64 0, .slice none 0 0, .slice none 0 0]) 31) else noIt] wx) ⟨none, 0, none, 0, [], none, 0, none, 0, [], none, 0, none, 0, [], 0, 0, 0⟩ ?_ ?_ ?_
    · exact H1.out.blank.blank.blank.blank.blank.blank.drew
    · simp only [AllFrom, Nat.zero_add, Nat.reduceAdd]
      refine ⟨?_, ?_, ?_, ?_, ?_, ?_, ?_, ?_, ?_, ?_, ?_, ?_, trivial⟩
      · refine step_pure fun sg ly act wx hl hd hW hF => ?_
        have et3 := hF.old 3 (by kernel_rfl)
        simp [Act.eval] at et3
        have hO := hW
        try dsimp only at hO
        have hh := hO.heap 0 rfl
        have clq0 := (cell_of_heap hh 0).trans rfl
        have clq1 := (cell_of_heap hh 1).trans rfl
        have clq2 := (cell_of_heap hh 2).trans rfl
        have zz := heap_lt hh
        exact ⟨hW, .agg (prtV Ac cc Ab cb p), by go_simp, rfl⟩
      · refine step_call fun sg ly act wx hl hd hW hF => ?_
        simp [Region.binds] at hd
        have et28 := hF.new 0 28 (by simp [hd]) rfl
        simp [FvkV, Act.eval] at et28
        have n9 := hF.notYet 1 9 hl (by kernel_rfl)
        have hO := hW
        try dsimp only at hO
        simp only [hl, n9, Bool.false_eq_true, if_false, if_true] at hO
        refine ⟨31, #[.agg (prtV Ac cc Ab cb p)], by go_simp, ?_⟩
        refine (HC.out.1 wx hO.bel).mono ?_
        rintro e w2 ⟨A', c', B', d', q', rfl, h1, h2, h3⟩
        have hN := hO.newG 3 rfl h3 (h1 _) h2
        refine ⟨_, { sg with Ac := A', cc := c', Ab := B', cb := d', q1 := q' }, rfl, ?_, rfl, ?_⟩
        · simpa [upd, n9] using hN
        · intro i u hi h
          have i1 : i ≠ 1 := by rintro rfl; rw [hl] at hi; cases hi
          have i9 : i ≠ 9 := by rintro rfl; rw [n9] at hi; cases hi
          unfold FvkV at h ⊢
          split at h <;> first | exact h | exact absurd rfl i1 | exact absurd rfl i9
      · refine step_pure fun sg ly act wx hl hd hW hF => ?_
        have et4 := hF.old 4 (by kernel_rfl)
        simp [Act.eval] at et4
        have hO := hW
        try dsimp only at hO
        have hh := hO.heap 1 rfl
        have clq0 := (cell_of_heap hh 0).trans rfl
        have clq1 := (cell_of_heap hh 1).trans rfl
        have zz := heap_lt hh
        exact ⟨hW, .agg (sttV Ar cr Au cu st), by go_simp, rfl⟩
      · refine step_call fun sg ly act wx hl hd hW hF => ?_
        simp [Region.binds] at hd
        have et30 := hF.new 2 30 (by simp [hd]) rfl
        simp [FvkV, Act.eval] at et30
        have n10 := hF.notYet 3 10 hl (by kernel_rfl)
        have hO := hW
        try dsimp only at hO
        simp only [hl, n10, Bool.false_eq_true, if_false, if_true] at hO
        refine ⟨32, #[.agg (sttV Ar cr Au cu st)], by go_simp, ?_⟩
        refine (HC.out.2.1 wx hO.bel).mono ?_
        rintro e w2 ⟨A', c', B', d', q', rfl, h1, h2, h3⟩
        have hN := hO.newG 4 rfl h3 (h1 _) h2
        refine ⟨_, { sg with Ar := A', cr := c', Au := B', cu := d', q2 := q' }, rfl, ?_, rfl, ?_⟩
        · simpa [upd, n10] using hN
        · intro i u hi h
          have i3 : i ≠ 3 := by rintro rfl; rw [hl] at hi; cases hi
          have i10 : i ≠ 10 := by rintro rfl; rw [n10] at hi; cases hi
          unfold FvkV at h ⊢
          split at h <;> first | exact h | exact absurd rfl i3 | exact absurd rfl i10
      · refine step_pure fun sg ly act wx hl hd hW hF => ?_
        have et5 := hF.old 5 (by kernel_rfl)
        simp [Act.eval] at et5
        have hO := hW
        try dsimp only at hO
        have hh := hO.heap 2 rfl
        have clq0 := (cell_of_heap hh 0).trans rfl
        have clq1 := (cell_of_heap hh 1).trans rfl
        have clq2 := (cell_of_heap hh 2).trans rfl
        have zz := heap_lt hh
        exact ⟨hW, .agg (plnV Al cl As cs l), by go_simp, rfl⟩
      · refine step_call fun sg ly act wx hl hd hW hF => ?_
        simp [Region.binds] at hd
        have et32 := hF.new 4 32 (by simp [hd]) rfl
        simp [FvkV, Act.eval] at et32
        have n11 := hF.notYet 5 11 hl (by kernel_rfl)
        have hO := hW
        try dsimp only at hO
        simp only [hl, n11, Bool.false_eq_true, if_false, if_true] at hO
        refine ⟨33, #[.agg (plnV Al cl As cs l)], by go_simp, ?_⟩
        refine (HC.out.2.2 wx hO.bel).mono ?_
        rintro e w2 ⟨A', c', B', d', q', rfl, h1, h2, h3⟩
        have hN := hO.newG 5 rfl h3 (h1 _) h2
        refine ⟨_, { sg with Al := A', cl := c', As := B', cs := d', q3 := q' }, rfl, ?_, rfl, ?_⟩
        · simpa [upd, n11] using hN
        · intro i u hi h
          have i5 : i ≠ 5 := by rintro rfl; rw [hl] at hi; cases hi
          have i11 : i ≠ 11 := by rintro rfl; rw [n11] at hi; cases hi
          unfold FvkV at h ⊢
          split at h <;> first | exact h | exact absurd rfl i5 | exact absurd rfl i11
      · refine step_run fun sg ly act wx hl hd hW hF => ?_
        have n9 := hF.notYet 6 9 hl (by kernel_rfl)
        have hO := hW
        try dsimp only at hO
        simp only [hl, n9, Bool.false_eq_true, if_false, if_true] at hO
        refine ⟨_, wx.alloc (.cells #[.slice none 0 0, .slice none 0 0, .int .i64 0] 26), { sg with xb := wx.heap.size }, by go_simp, ?_, rfl, ?_⟩
        · have hN := hO.newB 6 rfl (.cells #[.slice none 0 0, .slice none 0 0, .int .i64 0] 26)
          simpa [upd, n9] using hN
        · intro i u hi h
          have i6 : i ≠ 6 := by rintro rfl; rw [hl] at hi; cases hi
          unfold FvkV at h ⊢
          split at h <;> first | exact h | exact absurd rfl i6
      · refine step_run fun sg ly act wx hl hd hW hF => ?_
        have n10 := hF.notYet 7 10 hl (by kernel_rfl)
        have hO := hW
        try dsimp only at hO
        simp only [hl, n10, Bool.false_eq_true, if_false, if_true] at hO
        refine ⟨_, wx.alloc (.cells #[.slice none 0 0, .slice none 0 0] 42), { sg with zb := wx.heap.size }, by go_simp, ?_, rfl, ?_⟩
        · have hN := hO.newB 7 rfl (.cells #[.slice none 0 0, .slice none 0 0] 42)
          simpa [upd, n10] using hN
        · intro i u hi h
          have i7 : i ≠ 7 := by rintro rfl; rw [hl] at hi; cases hi
          unfold FvkV at h ⊢
          split at h <;> first | exact h | exact absurd rfl i7
      · refine step_run fun sg ly act wx hl hd hW hF => ?_
        have n11 := hF.notYet 8 11 hl (by kernel_rfl)
        have hO := hW
        try dsimp only at hO
        simp only [hl, n11, Bool.false_eq_true, if_false, if_true] at hO
        refine ⟨_, wx.alloc (.cells #[.int .i64 0, .slice none 0 0, .slice none 0 0] 31), { sg with yb := wx.heap.size }, by go_simp, ?_, rfl, ?_⟩
        · have hN := hO.newB 8 rfl (.cells #[.int .i64 0, .slice none 0 0, .slice none 0 0] 31)
          simpa [upd, n11] using hN
        · intro i u hi h
          have i8 : i ≠ 8 := by rintro rfl; rw [hl] at hi; cases hi
          unfold FvkV at h ⊢
          split at h <;> first | exact h | exact absurd rfl i8
      · refine step_store rfl fun sg ly act wx hl hd hW hF => ?_
        simp [Region.binds] at hd
        have et7 := hF.new 6 7 (by simp [hd]) rfl
        simp [FvkV, Act.eval] at et7
        have et29 := hF.new 1 29 (by simp [hd]) rfl
        simp [FvkV, Act.eval] at et29
        have y1 : ly 1 = true := by simp [hd]
        have y6 : ly 6 = true := by simp [hd]
        have hO := hW
        try dsimp only at hO
        simp only [hl, y1, y6, Bool.false_eq_true, if_false, if_true] at hO
        have hh := hO.heap 6 rfl
        have clq0 := (cell_of_heap hh 0).trans rfl
        have flq0 := frozen_of_heap hh 0
        have clq1 := (cell_of_heap hh 1).trans rfl
        have flq1 := frozen_of_heap hh 1
        have clq2 := (cell_of_heap hh 2).trans rfl
        have flq2 := frozen_of_heap hh 2
        have zz := heap_lt hh
        refine ⟨(((wx.setCell ⟨sg.xb, 0, none⟩ (.slice sg.Ac p.chs.length sg.cc)).setCell ⟨sg.xb, 1, none⟩ (.slice sg.Ab p.bts.length sg.cb)).setCell ⟨sg.xb, 2, none⟩ (.int .i64 p.tugs)), sg, .skip, by go_simp, .inl rfl, ?_, fun _ _ _ h => h⟩
        have hN := hO.set 6 rfl ((((Keep.refl _ _).setCell (.inl (by simp)) (.slice sg.Ac p.chs.length sg.cc)).setCell (.inl (by simp)) (.slice sg.Ab p.bts.length sg.cb)).setCell (.inl (by simp)) (.int .i64 p.tugs)) (heap_set (heap_set (heap_set (hh) 0 (.slice sg.Ac p.chs.length sg.cc)) 1 (.slice sg.Ab p.bts.length sg.cb)) 2 (.int .i64 p.tugs))
        simpa [upd, y1, y6, hl] using hN
      · refine step_store rfl fun sg ly act wx hl hd hW hF => ?_
        simp [Region.binds] at hd
        have et8 := hF.new 7 8 (by simp [hd]) rfl
        simp [FvkV, Act.eval] at et8
        have et31 := hF.new 3 31 (by simp [hd]) rfl
        simp [FvkV, Act.eval] at et31
        have y3 : ly 3 = true := by simp [hd]
        have y7 : ly 7 = true := by simp [hd]
        have hO := hW
        try dsimp only at hO
        simp only [hl, y3, y7, Bool.false_eq_true, if_false, if_true] at hO
        have hh := hO.heap 7 rfl
        have clq0 := (cell_of_heap hh 0).trans rfl
        have flq0 := frozen_of_heap hh 0
        have clq1 := (cell_of_heap hh 1).trans rfl
        have flq1 := frozen_of_heap hh 1
        have zz := heap_lt hh
        refine ⟨((wx.setCell ⟨sg.zb, 0, none⟩ (.slice sg.Ar st.brash.length sg.cr)).setCell ⟨sg.zb, 1, none⟩ (.slice sg.Au st.busy.length sg.cu)), sg, .skip, by go_simp, .inl rfl, ?_, fun _ _ _ h => h⟩
        have hN := hO.set 7 rfl (((Keep.refl _ _).setCell (.inl (by simp)) (.slice sg.Ar st.brash.length sg.cr)).setCell (.inl (by simp)) (.slice sg.Au st.busy.length sg.cu)) (heap_set (heap_set (hh) 0 (.slice sg.Ar st.brash.length sg.cr)) 1 (.slice sg.Au st.busy.length sg.cu))
        simpa [upd, y3, y7, hl] using hN
      · refine step_store rfl fun sg ly act wx hl hd hW hF => ?_
        simp [Region.binds] at hd
        have et9 := hF.new 8 9 (by simp [hd]) rfl
        simp [FvkV, Act.eval] at et9
        have et33 := hF.new 5 33 (by simp [hd]) rfl
        simp [FvkV, Act.eval] at et33
        have y5 : ly 5 = true := by simp [hd]
        have y8 : ly 8 = true := by simp [hd]
        have hO := hW
        try dsimp only at hO
        simp only [hl, y5, y8, Bool.false_eq_true, if_false, if_true] at hO
        have hh := hO.heap 8 rfl
        have clq0 := (cell_of_heap hh 0).trans rfl
        have flq0 := frozen_of_heap hh 0
        have clq1 := (cell_of_heap hh 1).trans rfl
        have flq1 := frozen_of_heap hh 1
        have clq2 := (cell_of_heap hh 2).trans rfl
        have flq2 := frozen_of_heap hh 2
        have zz := heap_lt hh
        refine ⟨(((wx.setCell ⟨sg.yb, 0, none⟩ (.int .i64 l.hours)).setCell ⟨sg.yb, 1, none⟩ (.slice sg.Al l.calls.length sg.cl)).setCell ⟨sg.yb, 2, none⟩ (.slice sg.As l.swps.length sg.cs)), sg, .skip, by go_simp, .inl rfl, ?_, fun _ _ _ h => h⟩
        have hN := hO.set 8 rfl ((((Keep.refl _ _).setCell (.inl (by simp)) (.int .i64 l.hours)).setCell (.inl (by simp)) (.slice sg.Al l.calls.length sg.cl)).setCell (.inl (by simp)) (.slice sg.As l.swps.length sg.cs)) (heap_set (heap_set (heap_set (hh) 0 (.int .i64 l.hours)) 1 (.slice sg.Al l.calls.length sg.cl)) 2 (.slice sg.As l.swps.length sg.cs))
        simpa [upd, y5, y8, hl] using hN
    intro sg af w3 hWW hF
    obtain ⟨ff, hf, rfl⟩ := hF.lit
    obtain ⟨Ac1, cc1, Ab1, cb1, q11, Ar1, cr1, Au1, cu1, q12, Al1, cl1, As1, cs1, q13, qb1, tb1, kb1⟩ := sg
    have e7 := hF.new 6 7 (by decide) rfl
    have e8 := hF.new 7 8 (by decide) rfl
    have e9 := hF.new 8 9 (by decide) rfl
    rw [← hf] at e7 e8 e9
    simp only [FvkV] at e7 e8 e9
    have O3 : Own w.heap.size w [It.blk pb (.cells (prtV Ac cc Ab cb p) 26), It.blk sb (.cells (sttV Ar cr Au cu st) 42), It.blk lb (.cells (plnV Al cl As cs l) 31), if (fun j => decide (j < List.length (_ : List Oper))) 1 = true then It.gen (Cp3.mk Ac1 cc1 Ab1 cb1 q11 Ar1 cr1 Au1 cu1 q12 Al1 cl1 As1 cs1 q13 qb1 tb1 kb1).q1 (PrtH (Cp3.mk Ac1 cc1 Ab1 cb1 q11 Ar1 cr1 Au1 cu1 q12 Al1 cl1 As1 cs1 q13 qb1 tb1 kb1).Ac (Cp3.mk Ac1 cc1 Ab1 cb1 q11 Ar1 cr1 Au1 cu1 q12 Al1 cl1 As1 cs1 q13 qb1 tb1 kb1).cc (Cp3.mk Ac1 cc1 Ab1 cb1 q11 Ar1 cr1 Au1 cu1 q12 Al1 cl1 As1 cs1 q13 qb1 tb1 kb1).Ab (Cp3.mk Ac1 cc1 Ab1 cb1 q11 Ar1 cr1 Au1 cu1 q12 Al1 cl1 As1 cs1 q13 qb1 tb1 kb1).cb p) else noIt, if (fun j => decide (j < List.length (_ : List Oper))) 3 = true then It.gen (Cp3.mk Ac1 cc1 Ab1 cb1 q11 Ar1 cr1 Au1 cu1 q12 Al1 cl1 As1 cs1 q13 qb1 tb1 kb1).q2 (SttH (Cp3.mk Ac1 cc1 Ab1 cb1 q11 Ar1 cr1 Au1 cu1 q12 Al1 cl1 As1 cs1 q13 qb1 tb1 kb1).Ar (Cp3.mk Ac1 cc1 Ab1 cb1 q11 Ar1 cr1 Au1 cu1 q12 Al1 cl1 As1 cs1 q13 qb1 tb1 kb1).cr (Cp3.mk Ac1 cc1 Ab1 cb1 q11 Ar1 cr1 Au1 cu1 q12 Al1 cl1 As1 cs1 q13 qb1 tb1 kb1).Au (Cp3.mk Ac1 cc1 Ab1 cb1 q11 Ar1 cr1 Au1 cu1 q12 Al1 cl1 As1 cs1 q13 qb1 tb1 kb1).cu st) else noIt, if (fun j => decide (j < List.length (_ : List Oper))) 5 = true then It.gen (Cp3.mk Ac1 cc1 Ab1 cb1 q11 Ar1 cr1 Au1 cu1 q12 Al1 cl1 As1 cs1 q13 qb1 tb1 kb1).q3 (PlnH (Cp3.mk Ac1 cc1 Ab1 cb1 q11 Ar1 cr1 Au1 cu1 q12 Al1 cl1 As1 cs1 q13 qb1 tb1 kb1).Al (Cp3.mk Ac1 cc1 Ab1 cb1 q11 Ar1 cr1 Au1 cu1 q12 Al1 cl1 As1 cs1 q13 qb1 tb1 kb1).cl (Cp3.mk Ac1 cc1 Ab1 cb1 q11 Ar1 cr1 Au1 cu1 q12 Al1 cl1 As1 cs1 q13 qb1 tb1 kb1).As (Cp3.mk Ac1 cc1 Ab1 cb1 q11 Ar1 cr1 Au1 cu1 q12 Al1 cl1 As1 cs1 q13 qb1 tb1 kb1).cs l) else noIt, if (fun j => decide (j < List.length (_ : List Oper))) 6 = true then It.blk (Cp3.mk Ac1 cc1 Ab1 cb1 q11 Ar1 cr1 Au1 cu1 q12 Al1 cl1 As1 cs1 q13 qb1 tb1 kb1).xb (.cells (if (fun j => decide (j < List.length (_ : List Oper))) 9 = true then prtV (Cp3.mk Ac1 cc1 Ab1 cb1 q11 Ar1 cr1 Au1 cu1 q12 Al1 cl1 As1 cs1 q13 qb1 tb1 kb1).Ac (Cp3.mk Ac1 cc1 Ab1 cb1 q11 Ar1 cr1 Au1 cu1 q12 Al1 cl1 As1 cs1 q13 qb1 tb1 kb1).cc (Cp3.mk Ac1 cc1 Ab1 cb1 q11 Ar1 cr1 Au1 cu1 q12 Al1 cl1 As1 cs1 q13 qb1 tb1 kb1).Ab (Cp3.mk Ac1 cc1 Ab1 cb1 q11 Ar1 cr1 Au1 cu1 q12 Al1 cl1 As1 cs1 q13 qb1 tb1 kb1).cb p else #[.slice none 0 0, .slice none 0 0, .int .i64 0]) 26) else noIt, if (fun j => decide (j < List.length (_ : List Oper))) 7 = true then It.blk (Cp3.mk Ac1 cc1 Ab1 cb1 q11 Ar1 cr1 Au1 cu1 q12 Al1 cl1 As1 cs1 q13 qb1 tb1 kb1).zb (.cells (if (fun j => decide (j < List.length (_ : List Oper))) 10 = true then sttV (Cp3.mk Ac1 cc1 Ab1 cb1 q11 Ar1 cr1 Au1 cu1 q12 Al1 cl1 As1 cs1 q13 qb1 tb1 kb1).Ar (Cp3.mk Ac1 cc1 Ab1 cb1 q11 Ar1 cr1 Au1 cu1 q12 Al1 cl1 As1 cs1 q13 qb1 tb1 kb1).cr (Cp3.mk Ac1 cc1 Ab1 cb1 q11 Ar1 cr1 Au1 cu1 q12 Al1 cl1 As1 cs1 q13 qb1 tb1 kb1).Au (Cp3.mk Ac1 cc1 Ab1 cb1 q11 Ar1 cr1 Au1 cu1 q12 Al1 cl1 As1 cs1 q13 qb1 tb1 kb1).cu st else #[.slice none 0 0, .slice none 0 0]) 42) else noIt, if (fun j => decide (j < List.length (_ : List Oper))) 8 = true then It.blk (Cp3.mk Ac1 cc1 Ab1 cb1 q11 Ar1 cr1 Au1 cu1 q12 Al1 cl1 As1 cs1 q13 qb1 tb1 kb1).yb (.cells (if (fun j => decide (j < List.length (_ : List Oper))) 11 = true then plnV (Cp3.mk Ac1 cc1 Ab1 cb1 q11 Ar1 cr1 Au1 cu1 q12 Al1 cl1 As1 cs1 q13 qb1 tb1 kb1).Al (Cp3.mk Ac1 cc1 Ab1 cb1 q11 Ar1 cr1 Au1 cu1 q12 Al1 cl1 As1 cs1 q13 qb1 tb1 kb1).cl (Cp3.mk Ac1 cc1 Ab1 cb1 q11 Ar1 cr1 Au1 cu1 q12 Al1 cl1 As1 cs1 q13 qb1 tb1 kb1).As (Cp3.mk Ac1 cc1 Ab1 cb1 q11 Ar1 cr1 Au1 cu1 q12 Al1 cl1 As1 cs1 q13 qb1 tb1 kb1).cs l else #[.int .i64 0, .slice none 0 0, .slice none 0 0]) 31) else noIt] w3 := hWW
    simp only [List.length_cons, List.length_nil, Nat.reduceAdd, Nat.reduceLT, decide_true, if_true] at O3
    have O4 : Own w.heap.size w [It.blk pb (.cells (prtV Ac cc Ab cb p) 26), It.blk sb (.cells (sttV Ar cr Au cu st) 42), It.blk lb (.cells (plnV Al cl As cs l) 31), It.gen q11 (PrtH Ac1 cc1 Ab1 cb1 p), It.gen q12 (SttH Ar1 cr1 Au1 cu1 st), It.gen q13 (PlnH Al1 cl1 As1 cs1 l), It.blk qb1 (.cells (prtV Ac1 cc1 Ab1 cb1 p) 26), It.blk tb1 (.cells (sttV Ar1 cr1 Au1 cu1 st) 42), It.blk kb1 (.cells (plnV Al1 cl1 As1 cs1 l) 31)] w3 := O3
    have H4 := Lib.hid O4
    clear hf hF hWW O3 O4
    simp only [List.filterMap, List.foldl, List.setIfInBounds_toArray, List.set_cons_succ, List.set_cons_zero, e7, e8, e9]
    clear e7 e8 e9
    go_upto_region 4 with fail
    refine wp_region_steps (σ := Cp3) (by kernel_rfl) (by kernel_rfl) (fun sg jx vx _ => FvmV Ac cc Ab cb p Ar cr Au cu st Al cl As cs l sg jx vx) (fun sg ly wx => Own w.heap.size w [It.blk pb (.cells (prtV Ac cc Ab cb p) 26), It.blk sb (.cells (sttV Ar cr Au cu st) 42), It.blk lb (.cells (plnV Al cl As cs l) 31), It.gen q11 (PrtH Ac1 cc1 Ab1 cb1 p), It.gen q12 (SttH Ar1 cr1 Au1 cu1 st), It.gen q13 (PlnH Al1 cl1 As1 cs1 l), It.blk qb1 (.cells (prtV Ac1 cc1 Ab1 cb1 p) 26), It.blk tb1 (.cells (sttV Ar1 cr1 Au1 cu1 st) 42), It.blk kb1 (.cells (plnV Al1 cl1 As1 cs1 l) 31), if ly 1 = true then It.gen sg.q1 (PrtH sg.Ac sg.cc sg.Ab sg.cb p) else noIt, if ly 3 = true then It.gen sg.q2 (SttH sg.Ar sg.cr sg.Au sg.cu st) else noIt, if ly 5 = true then It.gen sg.q3 (PlnH sg.Al sg.cl sg.As sg.cs l) else noIt, if ly 6 = true then It.blk sg.xb (.cells (if ly 9 = true then prtV sg.Ac sg.cc sg.Ab sg.cb p else #[.slice none 0 0, .slice none 0 0, .int .i64 0]) 79) else noIt, if ly 7 = true then It.blk sg.zb (.cells (if ly 10 = true then sttV sg.Ar sg.cr sg.Au sg.cu st else #[.slice none 0 0, .slice none 0 0]) 81) else noIt, if ly 8 = true then It.blk sg.yb (.cells (if ly 11 = true then plnV sg.Al sg.cl sg.As sg.cs l else #[.int .i64 0, .slice none 0 0, .slice none 0 0]) 85) else noIt] wx) ⟨none, 0, none, 0, [], none, 0, none, 0, [], none, 0, none, 0, [], 0, 0, 0⟩ ?_ ?_ ?_
    · exact H4.out.blank.blank.blank.blank.blank.blank.drew
    · simp only [AllFrom, Nat.zero_add, Nat.reduceAdd]
      refine ⟨?_, ?_, ?_, ?_, ?_, ?_, ?_, ?_, ?_, ?_, ?_, ?_, trivial⟩
      · refine step_pure fun sg ly act wx hl hd hW hF => ?_
        have et3 := hF.old 3 (by kernel_rfl)
        simp [Act.eval] at et3
        have hO := hW
        try dsimp only at hO
        have hh := hO.heap 0 rfl
        have clq0 := (cell_of_heap hh 0).trans rfl
        have clq1 := (cell_of_heap hh 1).trans rfl
        have clq2 := (cell_of_heap hh 2).trans rfl
        have zz := heap_lt hh
        exact ⟨hW, .agg (prtV Ac cc Ab cb p), by go_simp, rfl⟩
      · refine step_call fun sg ly act wx hl hd hW hF => ?_
        simp [Region.binds] at hd
        have et34 := hF.new 0 34 (by simp [hd]) rfl
        simp [FvmV, Act.eval] at et34
        have n9 := hF.notYet 1 9 hl (by kernel_rfl)
        have hO := hW
        try dsimp only at hO
        simp only [hl, n9, Bool.false_eq_true, if_false, if_true] at hO
        refine ⟨34, #[.agg (prtV Ac cc Ab cb p)], by go_simp, ?_⟩
        refine (HD.out.1 wx hO.bel).mono ?_
        rintro e w2 ⟨A', c', B', d', q', rfl, h1, h2, h3⟩
        have hN := hO.newG 9 rfl h3 (h1 _) h2
        refine ⟨_, { sg with Ac := A', cc := c', Ab := B', cb := d', q1 := q' }, rfl, ?_, rfl, ?_⟩
        · simpa [upd, n9] using hN
        · intro i u hi h
          have i1 : i ≠ 1 := by rintro rfl; rw [hl] at hi; cases hi
          have i9 : i ≠ 9 := by rintro rfl; rw [n9] at hi; cases hi
          unfold FvmV at h ⊢
          split at h <;> first | exact h | exact absurd rfl i1 | exact absurd rfl i9
      · refine step_pure fun sg ly act wx hl hd hW hF => ?_
        have et4 := hF.old 4 (by kernel_rfl)
        simp [Act.eval] at et4
        have hO := hW
        try dsimp only at hO
        have hh := hO.heap 1 rfl
        have clq0 := (cell_of_heap hh 0).trans rfl
        have clq1 := (cell_of_heap hh 1).trans rfl
        have zz := heap_lt hh
        exact ⟨hW, .agg (sttV Ar cr Au cu st), by go_simp, rfl⟩
      · refine step_call fun sg ly act wx hl hd hW hF => ?_
        simp [Region.binds] at hd
        have et36 := hF.new 2 36 (by simp [hd]) rfl
        simp [FvmV, Act.eval] at et36
        have n10 := hF.notYet 3 10 hl (by kernel_rfl)
        have hO := hW
        try dsimp only at hO
        simp only [hl, n10, Bool.false_eq_true, if_false, if_true] at hO
        refine ⟨32, #[.agg (sttV Ar cr Au cu st)], by go_simp, ?_⟩
        refine (HD.out.2.1 wx hO.bel).mono ?_
        rintro e w2 ⟨A', c', B', d', q', rfl, h1, h2, h3⟩
        have hN := hO.newG 10 rfl h3 (h1 _) h2
        refine ⟨_, { sg with Ar := A', cr := c', Au := B', cu := d', q2 := q' }, rfl, ?_, rfl, ?_⟩
        · simpa [upd, n10] using hN
        · intro i u hi h
          have i3 : i ≠ 3 := by rintro rfl; rw [hl] at hi; cases hi
          have i10 : i ≠ 10 := by rintro rfl; rw [n10] at hi; cases hi
          unfold FvmV at h ⊢
          split at h <;> first | exact h | exact absurd rfl i3 | exact absurd rfl i10
      · refine step_pure fun sg ly act wx hl hd hW hF => ?_
        have et5 := hF.old 5 (by kernel_rfl)
        simp [Act.eval] at et5
        have hO := hW
        try dsimp only at hO
        have hh := hO.heap 2 rfl
        have clq0 := (cell_of_heap hh 0).trans rfl
        have clq1 := (cell_of_heap hh 1).trans rfl
        have clq2 := (cell_of_heap hh 2).trans rfl
        have zz := heap_lt hh
        exact ⟨hW, .agg (plnV Al cl As cs l), by go_simp, rfl⟩
      · refine step_call fun sg ly act wx hl hd hW hF => ?_
        simp [Region.binds] at hd
        have et38 := hF.new 4 38 (by simp [hd]) rfl
        simp [FvmV, Act.eval] at et38
        have n11 := hF.notYet 5 11 hl (by kernel_rfl)
        have hO := hW
        try dsimp only at hO
        simp only [hl, n11, Bool.false_eq_true, if_false, if_true] at hO
        refine ⟨35, #[.agg (plnV Al cl As cs l)], by go_simp, ?_⟩
        refine (HD.out.2.2 wx hO.bel).mono ?_
        rintro e w2 ⟨A', c', B', d', q', rfl, h1, h2, h3⟩
        have hN := hO.newG 11 rfl h3 (h1 _) h2
        refine ⟨_, { sg with Al := A', cl := c', As := B', cs := d', q3 := q' }, rfl, ?_, rfl, ?_⟩
        · simpa [upd, n11] using hN
        · intro i u hi h
          have i5 : i ≠ 5 := by rintro rfl; rw [hl] at hi; cases hi
          have i11 : i ≠ 11 := by rintro rfl; rw [n11] at hi; cases hi
          unfold FvmV at h ⊢
          split at h <;> first | exact h | exact absurd rfl i5 | exact absurd rfl i11
      · refine step_run fun sg ly act wx hl hd hW hF => ?_
        have n9 := hF.notYet 6 9 hl (by kernel_rfl)
        have hO := hW
        try dsimp only at hO
        simp only [hl, n9, Bool.false_eq_true, if_false, if_true] at hO
        refine ⟨_, wx.alloc (.cells #[.slice none 0 0, .slice none 0 0, .int .i64 0] 79), { sg with xb := wx.heap.size }, by go_simp, ?_, rfl, ?_⟩
        · have hN := hO.newB 12 rfl (.cells #[.slice none 0 0, .slice none 0 0, .int .i64 0] 79)
          simpa [upd, n9] using hN
        · intro i u hi h
          have i6 : i ≠ 6 := by rintro rfl; rw [hl] at hi; cases hi
          unfold FvmV at h ⊢
          split at h <;> first | exact h | exact absurd rfl i6
      · refine step_run fun sg ly act wx hl hd hW hF => ?_
        have n10 := hF.notYet 7 10 hl (by kernel_rfl)
        have hO := hW
        try dsimp only at hO
        simp only [hl, n10, Bool.false_eq_true, if_false, if_true] at hO
        refine ⟨_, wx.alloc (.cells #[.slice none 0 0, .slice none 0 0] 81), { sg with zb := wx.heap.size }, by go_simp, ?_, rfl, ?_⟩
        · have hN := hO.newB 13 rfl (.cells #[.slice none 0 0, .slice none 0 0] 81)
          simpa [upd, n10] using hN
        · intro i u hi h
          have i7 : i ≠ 7 := by rintro rfl; rw [hl] at hi; cases hi
          unfold FvmV at h ⊢
          split at h <;> first | exact h | exact absurd rfl i7
      · refine step_run fun sg ly act wx hl hd hW hF => ?_
        have n11 := hF.notYet 8 11 hl (by kernel_rfl)
        have hO := hW
        try dsimp only at hO
        simp only [hl, n11, Bool.false_eq_true, if_false, if_true] at hO
        refine ⟨_, wx.alloc (.cells #[.int .i64 0, .slice none 0 0, .slice none 0 0] 85), { sg with yb := wx.heap.size }, by go_simp, ?_, rfl, ?_⟩
        · have hN := hO.newB 14 rfl (.cells #[.int .i64 0, .slice none 0 0, .slice none 0 0] 85)
          simpa [upd, n11] using hN
        · intro i u hi h
          have i8 : i ≠ 8 := by rintro rfl; rw [hl] at hi; cases hi
          unfold FvmV at h ⊢
          split at h <;> first | exact h | exact absurd rfl i8
      · refine step_store rfl fun sg ly act wx hl hd hW hF => ?_
        simp [Region.binds] at hd
        have et10 := hF.new 6 10 (by simp [hd]) rfl
        simp [FvmV, Act.eval] at et10
        have et35 := hF.new 1 35 (by simp [hd]) rfl
        simp [FvmV, Act.eval] at et35
        have y1 : ly 1 = true := by simp [hd]
        have y6 : ly 6 = true := by simp [hd]
        have hO := hW
        try dsimp only at hO
        simp only [hl, y1, y6, Bool.false_eq_true, if_false, if_true] at hO
        have hh := hO.heap 12 rfl
        have clq0 := (cell_of_heap hh 0).trans rfl
        have flq0 := frozen_of_heap hh 0
        have clq1 := (cell_of_heap hh 1).trans rfl
        have flq1 := frozen_of_heap hh 1
        have clq2 := (cell_of_heap hh 2).trans rfl
        have flq2 := frozen_of_heap hh 2
        have zz := heap_lt hh
        refine ⟨(((wx.setCell ⟨sg.xb, 0, none⟩ (.slice sg.Ac p.chs.length sg.cc)).setCell ⟨sg.xb, 1, none⟩ (.slice sg.Ab p.bts.length sg.cb)).setCell ⟨sg.xb, 2, none⟩ (.int .i64 p.tugs)), sg, .skip, by go_simp, .inl rfl, ?_, fun _ _ _ h => h⟩
        have hN := hO.set 12 rfl ((((Keep.refl _ _).setCell (.inl (by simp)) (.slice sg.Ac p.chs.length sg.cc)).setCell (.inl (by simp)) (.slice sg.Ab p.bts.length sg.cb)).setCell (.inl (by simp)) (.int .i64 p.tugs)) (heap_set (heap_set (heap_set (hh) 0 (.slice sg.Ac p.chs.length sg.cc)) 1 (.slice sg.Ab p.bts.length sg.cb)) 2 (.int .i64 p.tugs))
        simpa [upd, y1, y6, hl] using hN
      · refine step_store rfl fun sg ly act wx hl hd hW hF => ?_
        simp [Region.binds] at hd
        have et11 := hF.new 7 11 (by simp [hd]) rfl
        simp [FvmV, Act.eval] at et11
        have et37 := hF.new 3 37 (by simp [hd]) rfl
        simp [FvmV, Act.eval] at et37
        have y3 : ly 3 = true := by simp [hd]
        have y7 : ly 7 = true := by simp [hd]
        have hO := hW
        try dsimp only at hO
        simp only [hl, y3, y7, Bool.false_eq_true, if_false, if_true] at hO
        have hh := hO.heap 13 rfl
        have clq0 := (cell_of_heap hh 0).trans rfl
        have flq0 := frozen_of_heap hh 0
        have clq1 := (cell_of_heap hh 1).trans rfl
        have flq1 := frozen_of_heap hh 1
        have zz := heap_lt hh
        refine ⟨((wx.setCell ⟨sg.zb, 0, none⟩ (.slice sg.Ar st.brash.length sg.cr)).setCell ⟨sg.zb, 1, none⟩ (.slice sg.Au st.busy.length sg.cu)), sg, .skip, by go_simp, .inl rfl, ?_, fun _ _ _ h => h⟩
        have hN := hO.set 13 rfl (((Keep.refl _ _).setCell (.inl (by simp)) (.slice sg.Ar st.brash.length sg.cr)).setCell (.inl (by simp)) (.slice sg.Au st.busy.length sg.cu)) (heap_set (heap_set (hh) 0 (.slice sg.Ar st.brash.length sg.cr)) 1 (.slice sg.Au st.busy.length sg.cu))
        simpa [upd, y3, y7, hl] using hN
      · refine step_store rfl fun sg ly act wx hl hd hW hF => ?_
        simp [Region.binds] at hd
        have et12 := hF.new 8 12 (by simp [hd]) rfl
        simp [FvmV, Act.eval] at et12
        have et39 := hF.new 5 39 (by simp [hd]) rfl
        simp [FvmV, Act.eval] at et39
        have y5 : ly 5 = true := by simp [hd]
        have y8 : ly 8 = true := by simp [hd]
        have hO := hW
        try dsimp only at hO
        simp only [hl, y5, y8, Bool.false_eq_true, if_false, if_true] at hO
        have hh := hO.heap 14 rfl
        have clq0 := (cell_of_heap hh 0).trans rfl
        have flq0 := frozen_of_heap hh 0
        have clq1 := (cell_of_heap hh 1).trans rfl
        have flq1 := frozen_of_heap hh 1
        have clq2 := (cell_of_heap hh 2).trans rfl
        have flq2 := frozen_of_heap hh 2
        have zz := heap_lt hh
        refine ⟨(((wx.setCell ⟨sg.yb, 0, none⟩ (.int .i64 l.hours)).setCell ⟨sg.yb, 1, none⟩ (.slice sg.Al l.calls.length sg.cl)).setCell ⟨sg.yb, 2, none⟩ (.slice sg.As l.swps.length sg.cs)), sg, .skip, by go_simp, .inl rfl, ?_, fun _ _ _ h => h⟩
        have hN := hO.set 14 rfl ((((Keep.refl _ _).setCell (.inl (by simp)) (.int .i64 l.hours)).setCell (.inl (by simp)) (.slice sg.Al l.calls.length sg.cl)).setCell (.inl (by simp)) (.slice sg.As l.swps.length sg.cs)) (heap_set (heap_set (heap_set (hh) 0 (.int .i64 l.hours)) 1 (.slice sg.Al l.calls.length sg.cl)) 2 (.slice sg.As l.swps.length sg.cs))
        simpa [upd, y5, y8, hl] using hN
    intro sg af w4 hWW hF
    obtain ⟨ff, hf, rfl⟩ := hF.lit
    obtain ⟨Ac2, cc2, Ab2, cb2, q21, Ar2, cr2, Au2, cu2, q22, Al2, cl2, As2, cs2, q23, qb2, tb2, kb2⟩ := sg
    have e10 := hF.new 6 10 (by decide) rfl
    have e11 := hF.new 7 11 (by decide) rfl
    have e12 := hF.new 8 12 (by decide) rfl
    rw [← hf] at e10 e11 e12
    simp only [FvmV] at e10 e11 e12
    have O5 : Own w.heap.size w [It.blk pb (.cells (prtV Ac cc Ab cb p) 26), It.blk sb (.cells (sttV Ar cr Au cu st) 42), It.blk lb (.cells (plnV Al cl As cs l) 31), It.gen q11 (PrtH Ac1 cc1 Ab1 cb1 p), It.gen q12 (SttH Ar1 cr1 Au1 cu1 st), It.gen q13 (PlnH Al1 cl1 As1 cs1 l), It.blk qb1 (.cells (prtV Ac1 cc1 Ab1 cb1 p) 26), It.blk tb1 (.cells (sttV Ar1 cr1 Au1 cu1 st) 42), It.blk kb1 (.cells (plnV Al1 cl1 As1 cs1 l) 31), if (fun j => decide (j < List.length (_ : List Oper))) 1 = true then It.gen (Cp3.mk Ac2 cc2 Ab2 cb2 q21 Ar2 cr2 Au2 cu2 q22 Al2 cl2 As2 cs2 q23 qb2 tb2 kb2).q1 (PrtH (Cp3.mk Ac2 cc2 Ab2 cb2 q21 Ar2 cr2 Au2 cu2 q22 Al2 cl2 As2 cs2 q23 qb2 tb2 kb2).Ac (Cp3.mk Ac2 cc2 Ab2 cb2 q21 Ar2 cr2 Au2 cu2 q22 Al2 cl2 As2 cs2 q23 qb2 tb2 kb2).cc (Cp3.mk Ac2 cc2 Ab2 cb2 q21 Ar2 cr2 Au2 cu2 q22 Al2 cl2 As2 cs2 q23 qb2 tb2 kb2).Ab (Cp3.mk Ac2 cc2 Ab2 cb2 q21 Ar2 cr2 Au2 cu2 q22 Al2 cl2 As2 cs2 q23 qb2 tb2 kb2).cb p) else noIt, if (fun j => decide (j < List.length (_ : List Oper))) 3 = true then It.gen (Cp3.mk Ac2 cc2 Ab2 cb2 q21 Ar2 cr2 Au2 cu2 q22 Al2 cl2 As2 cs2 q23 qb2 tb2 kb2).q2 (SttH (Cp3.mk Ac2 cc2 Ab2 cb2 q21 Ar2 cr2 Au2 cu2 q22 Al2 cl2 As2 cs2 q23 qb2 tb2 kb2).Ar (Cp3.mk Ac2 cc2 Ab2 cb2 q21 Ar2 cr2 Au2 cu2 q22 Al2 cl2 As2 cs2 q23 qb2 tb2 kb2).cr (Cp3.mk Ac2 cc2 Ab2 cb2 q21 Ar2 cr2 Au2 cu2 q22 Al2 cl2 As2 cs2 q23 qb2 tb2 kb2).Au (Cp3.mk Ac2 cc2 Ab2 cb2 q21 Ar2 cr2 Au2 cu2 q22 Al2 cl2 As2 cs2 q23 qb2 tb2 kb2).cu st) else noIt, if (fun j => decide (j < List.length (_ : List Oper))) 5 = true then It.gen (Cp3.mk Ac2 cc2 Ab2 cb2 q21 Ar2 cr2 Au2 cu2 q22 Al2 cl2 As2 cs2 q23 qb2 tb2 kb2).q3 (PlnH (Cp3.mk Ac2 cc2 Ab2 cb2 q21 Ar2 cr2 Au2 cu2 q22 Al2 cl2 As2 cs2 q23 qb2 tb2 kb2).Al (Cp3.mk Ac2 cc2 Ab2 cb2 q21 Ar2 cr2 Au2 cu2 q22 Al2 cl2 As2 cs2 q23 qb2 tb2 kb2).cl (Cp3.mk Ac2 cc2 Ab2 cb2 q21 Ar2 cr2 Au2 cu2 q22 Al2 cl2 As2 cs2 q23 qb2 tb2 kb2).As (Cp3.mk Ac2 cc2 Ab2 cb2 q21 Ar2 cr2 Au2 cu2 q22 Al2 cl2 As2 cs2 q23 qb2 tb2 kb2).cs l) else noIt, if (fun j => decide (j < List.length (_ : List Oper))) 6 = true then It.blk (Cp3.mk Ac2 cc2 Ab2 cb2 q21 Ar2 cr2 Au2 cu2 q22 Al2 cl2 As2 cs2 q23 qb2 tb2 kb2).xb (.cells (if (fun j => decide (j < List.length (_ : List Oper))) 9 = true then prtV (Cp3.mk Ac2 cc2 Ab2 cb2 q21 Ar2 cr2 Au2 cu2 q22 Al2 cl2 As2 cs2 q23 qb2 tb2 kb2).Ac (Cp3.mk Ac2 cc2 Ab2 cb2 q21 Ar2 cr2 Au2 cu2 q22 Al2 cl2 As2 cs2 q23 qb2 tb2 kb2).cc (Cp3.mk Ac2 cc2 Ab2 cb2 q21 Ar2 cr2 Au2 cu2 q22 Al2 cl2 As2 cs2 q23 qb2 tb2 kb2).Ab (Cp3.mk Ac2 cc2 Ab2 cb2 q21 Ar2 cr2 Au2 cu2 q22 Al2 cl2 As2 cs2 q23 qb2 tb2 kb2).cb p else #[.slice none 0 0, .slice none 0 0, .int .i64 0]) 79) else noIt, if (fun j => decide (j < List.length (_ : List Oper))) 7 = true then It.blk (Cp3.mk Ac2 cc2 Ab2 cb2 q21 Ar2 cr2 Au2 cu2 q22 Al2 cl2 As2 cs2 q23 qb2 tb2 kb2).zb (.cells (if (fun j => decide (j < List.length (_ : List Oper))) 10 = true then sttV (Cp3.mk Ac2 cc2 Ab2 cb2 q21 Ar2 cr2 Au2 cu2 q22 Al2 cl2 As2 cs2 q23 qb2 tb2 kb2).Ar (Cp3.mk Ac2 cc2 Ab2 cb2 q21 Ar2 cr2 Au2 cu2 q22 Al2 cl2 As2 cs2 q23 qb2 tb2 kb2).cr (Cp3.mk Ac2 cc2 Ab2 cb2 q21 Ar2 cr2 Au2 cu2 q22 Al2 cl2 As2 cs2 q23 qb2 tb2 kb2).Au (Cp3.mk Ac2 cc2 Ab2 cb2 q21 Ar2 cr2 Au2 cu2 q22 Al2 cl2 As2 cs2 q23 qb2 tb2 kb2).cu st else #[.slice none 0 0, .slice none 0 0]) 81) else noIt, if (fun j => decide (j < List.length (_ : List Oper))) 8 = true then It.blk (Cp3.mk Ac2 cc2 Ab2 cb2 q21 Ar2 cr2 Au2 cu2 q22 Al2 cl2 As2 cs2 q23 qb2 tb2 kb2).yb (.cells (if (fun j => decide (j < List.length (_ : List Oper))) 11 = true then plnV (Cp3.mk Ac2 cc2 Ab2 cb2 q21 Ar2 cr2 Au2 cu2 q22 Al2 cl2 As2 cs2 q23 qb2 tb2 kb2).Al (Cp3.mk Ac2 cc2 Ab2 cb2 q21 Ar2 cr2 Au2 cu2 q22 Al2 cl2 As2 cs2 q23 qb2 tb2 kb2).cl (Cp3.mk Ac2 cc2 Ab2 cb2 q21 Ar2 cr2 Au2 cu2 q22 Al2 cl2 As2 cs2 q23 qb2 tb2 kb2).As (Cp3.mk Ac2 cc2 Ab2 cb2 q21 Ar2 cr2 Au2 cu2 q22 Al2 cl2 As2 cs2 q23 qb2 tb2 kb2).cs l else #[.int .i64 0, .slice none 0 0, .slice none 0 0]) 85) else noIt] w4 := hWW
    simp only [List.length_cons, List.length_nil, Nat.reduceAdd, Nat.reduceLT, decide_true, if_true] at O5
    have O6 : Own w.heap.size w [It.blk pb (.cells (prtV Ac cc Ab cb p) 26), It.blk sb (.cells (sttV Ar cr Au cu st) 42), It.blk lb (.cells (plnV Al cl As cs l) 31), It.gen q11 (PrtH Ac1 cc1 Ab1 cb1 p), It.gen q12 (SttH Ar1 cr1 Au1 cu1 st), It.gen q13 (PlnH Al1 cl1 As1 cs1 l), It.blk qb1 (.cells (prtV Ac1 cc1 Ab1 cb1 p) 26), It.blk tb1 (.cells (sttV Ar1 cr1 Au1 cu1 st) 42), It.blk kb1 (.cells (plnV Al1 cl1 As1 cs1 l) 31), It.gen q21 (PrtH Ac2 cc2 Ab2 cb2 p), It.gen q22 (SttH Ar2 cr2 Au2 cu2 st), It.gen q23 (PlnH Al2 cl2 As2 cs2 l), It.blk qb2 (.cells (prtV Ac2 cc2 Ab2 cb2 p) 79), It.blk tb2 (.cells (sttV Ar2 cr2 Au2 cu2 st) 81), It.blk kb2 (.cells (plnV Al2 cl2 As2 cs2 l) 85)] w4 := O5
    have H5 := Lib.hid O6
    clear hf hF hWW O5 O6
    simp only [List.filterMap, List.foldl, List.setIfInBounds_toArray, List.set_cons_succ, List.set_cons_zero, e10, e11, e12]
    clear e10 e11 e12
    have cellsAt : ∀ wx, Own w.heap.size w [It.blk pb (.cells (prtV Ac cc Ab cb p) 26), It.blk sb (.cells (sttV Ar cr Au cu st) 42), It.blk lb (.cells (plnV Al cl As cs l) 31), It.gen q11 (PrtH Ac1 cc1 Ab1 cb1 p), It.gen q12 (SttH Ar1 cr1 Au1 cu1 st), It.gen q13 (PlnH Al1 cl1 As1 cs1 l), It.blk qb1 (.cells (prtV Ac1 cc1 Ab1 cb1 p) 26), It.blk tb1 (.cells (sttV Ar1 cr1 Au1 cu1 st) 42), It.blk kb1 (.cells (plnV Al1 cl1 As1 cs1 l) 31), It.gen q21 (PrtH Ac2 cc2 Ab2 cb2 p), It.gen q22 (SttH Ar2 cr2 Au2 cu2 st), It.gen q23 (PlnH Al2 cl2 As2 cs2 l), It.blk qb2 (.cells (prtV Ac2 cc2 Ab2 cb2 p) 79), It.blk tb2 (.cells (sttV Ar2 cr2 Au2 cu2 st) 81), It.blk kb2 (.cells (plnV Al2 cl2 As2 cs2 l) 85)] wx → wx.cell? ⟨sb, 0, none⟩ = some (.slice Ar st.brash.length cr) ∧ wx.cell? ⟨sb, 1, none⟩ = some (.slice Au st.busy.length cu) ∧ wx.cell? ⟨qb1, 0, none⟩ = some (.slice Ac1 p.chs.length cc1) ∧ wx.cell? ⟨qb1, 1, none⟩ = some (.slice Ab1 p.bts.length cb1) ∧ wx.cell? ⟨qb1, 2, none⟩ = some (.int .i64 p.tugs) ∧ wx.cell? ⟨tb1, 0, none⟩ = some (.slice Ar1 st.brash.length cr1) ∧ wx.cell? ⟨tb1, 1, none⟩ = some (.slice Au1 st.busy.length cu1) ∧ wx.cell? ⟨kb1, 0, none⟩ = some (.int .i64 l.hours) ∧ wx.cell? ⟨kb1, 1, none⟩ = some (.slice Al1 l.calls.length cl1) ∧ wx.cell? ⟨kb1, 2, none⟩ = some (.slice As1 l.swps.length cs1) ∧ wx.cell? ⟨qb2, 0, none⟩ = some (.slice Ac2 p.chs.length cc2) ∧ wx.cell? ⟨qb2, 1, none⟩ = some (.slice Ab2 p.bts.length cb2) ∧ wx.cell? ⟨qb2, 2, none⟩ = some (.int .i64 p.tugs) ∧ wx.cell? ⟨tb2, 0, none⟩ = some (.slice Ar2 st.brash.length cr2) ∧ wx.cell? ⟨tb2, 1, none⟩ = some (.slice Au2 st.busy.length cu2) ∧ wx.cell? ⟨kb2, 0, none⟩ = some (.int .i64 l.hours) ∧ wx.cell? ⟨kb2, 1, none⟩ = some (.slice Al2 l.calls.length cl2) ∧ wx.cell? ⟨kb2, 2, none⟩ = some (.slice As2 l.swps.length cs2) ∧ sb < wx.heap.size ∧ qb1 < wx.heap.size ∧ tb1 < wx.heap.size ∧ kb1 < wx.heap.size ∧ qb2 < wx.heap.size ∧ tb2 < wx.heap.size ∧ kb2 < wx.heap.size := fun wx O => ⟨(cell_of_heap (O.heap 1 rfl) 0).trans rfl, (cell_of_heap (O.heap 1 rfl) 1).trans rfl, (cell_of_heap (O.heap 6 rfl) 0).trans rfl, (cell_of_heap (O.heap 6 rfl) 1).trans rfl, (cell_of_heap (O.heap 6 rfl) 2).trans rfl, (cell_of_heap (O.heap 7 rfl) 0).trans rfl, (cell_of_heap (O.heap 7 rfl) 1).trans rfl, (cell_of_heap (O.heap 8 rfl) 0).trans rfl, (cell_of_heap (O.heap 8 rfl) 1).trans rfl, (cell_of_heap (O.heap 8 rfl) 2).trans rfl, (cell_of_heap (O.heap 12 rfl) 0).trans rfl, (cell_of_heap (O.heap 12 rfl) 1).trans rfl, (cell_of_heap (O.heap 12 rfl) 2).trans rfl, (cell_of_heap (O.heap 13 rfl) 0).trans rfl, (cell_of_heap (O.heap 13 rfl) 1).trans rfl, (cell_of_heap (O.heap 14 rfl) 0).trans rfl, (cell_of_heap (O.heap 14 rfl) 1).trans rfl, (cell_of_heap (O.heap 14 rfl) 2).trans rfl, heap_lt (O.heap 1 rfl), heap_lt (O.heap 6 rfl), heap_lt (O.heap 7 rfl), heap_lt (O.heap 8 rfl), heap_lt (O.heap 12 rfl), heap_lt (O.heap 13 rfl), heap_lt (O.heap 14 rfl)⟩
    have HX := Lib.hid cellsAt
    clear cellsAt
    obtain ⟨cq0, cq1, cq2, cq3, cq4, cq5, cq6, cq7, cq8, cq9, cq10, cq11, cq12, cq13, cq14, cq15, cq16, cq17, cq18, cq19, cq20, cq21, cq22, cq23, cq24⟩ := HX.out w4 H5.out
    have kk : ∀ wx, Own w.heap.size w [It.blk pb (.cells (prtV Ac cc Ab cb p) 26), It.blk sb (.cells (sttV Ar cr Au cu st) 42), It.blk lb (.cells (plnV Al cl As cs l) 31), It.gen q11 (PrtH Ac1 cc1 Ab1 cb1 p), It.gen q12 (SttH Ar1 cr1 Au1 cu1 st), It.gen q13 (PlnH Al1 cl1 As1 cs1 l), It.blk qb1 (.cells (prtV Ac1 cc1 Ab1 cb1 p) 26), It.blk tb1 (.cells (sttV Ar1 cr1 Au1 cu1 st) 42), It.blk kb1 (.cells (plnV Al1 cl1 As1 cs1 l) 31), It.gen q21 (PrtH Ac2 cc2 Ab2 cb2 p), It.gen q22 (SttH Ar2 cr2 Au2 cu2 st), It.gen q23 (PlnH Al2 cl2 As2 cs2 l), It.blk qb2 (.cells (prtV Ac2 cc2 Ab2 cb2 p) 79), It.blk tb2 (.cells (sttV Ar2 cr2 Au2 cu2 st) 81), It.blk kb2 (.cells (plnV Al2 cl2 As2 cs2 l) 85)] wx → (Calls Try.prog 14 #[.agg (prtV Ac1 cc1 Ab1 cb1 p), .agg (plnV Al1 cl1 As1 cs1 l)] wx (StaysPost wx p l)) ∧ (Calls Try.prog 36 #[.agg (prtV Ac2 cc2 Ab2 cb2 p), .agg (plnV Al2 cl2 As2 cs2 l)] wx (StaysPost wx p l)) ∧ (Calls Try.prog 18 #[.agg (prtV Ac1 cc1 Ab1 cb1 p), .agg (sttV Ar1 cr1 Au1 cu1 st), .agg (plnV Al1 cl1 As1 cs1 l)] wx (KeepsPost wx p st l)) ∧ (Calls Try.prog 38 #[.agg (prtV Ac2 cc2 Ab2 cb2 p), .agg (sttV Ar2 cr2 Au2 cu2 st), .agg (plnV Al2 cl2 As2 cs2 l)] wx (KeepsPost wx p st l)) ∧ (Calls Try.prog 17 #[.agg (prtV Ac1 cc1 Ab1 cb1 p), .agg (plnV Al1 cl1 As1 cs1 l)] wx (WornPost wx p l)) ∧ (Calls Try.prog 39 #[.agg (prtV Ac2 cc2 Ab2 cb2 p), .agg (plnV Al2 cl2 As2 cs2 l)] wx (WornPost wx p l)) ∧ (Calls Try.prog 40 #[.agg (prtV Ac1 cc1 Ab1 cb1 p), .agg (prtV Ac2 cc2 Ab2 cb2 p)] wx fun e w' => e = .returned (.bool true) ∧ Below wx.heap.size wx w') ∧ (Calls Try.prog 41 #[.agg (plnV Al1 cl1 As1 cs1 l), .agg (plnV Al2 cl2 As2 cs2 l)] wx fun e w' => e = .returned (.bool true) ∧ Below wx.heap.size wx w') ∧ (Calls Try.prog 42 #[.agg (sttV Ar1 cr1 Au1 cu1 st), .agg (sttV Ar cr Au cu st)] wx fun e w' => e = .returned (.bool true) ∧ Below wx.heap.size wx w') := fun wx O => ⟨Stays_any wx.heap.size _ _ _ _ p _ _ _ _ l wx (O.thing 3 rfl) (O.thing 5 rfl) (Nat.le_refl _), rStays_any wx.heap.size _ _ _ _ p _ _ _ _ l wx (O.thing 9 rfl) (O.thing 11 rfl) (Nat.le_refl _), Keeps_any wx.heap.size _ _ _ _ p _ _ _ _ l _ _ _ _ st wx (O.thing 3 rfl) (O.thing 5 rfl) (O.thing 4 rfl) (Nat.le_refl _), rKeeps_any wx.heap.size _ _ _ _ p _ _ _ _ l _ _ _ _ st wx (O.thing 9 rfl) (O.thing 11 rfl) (O.thing 10 rfl) (Nat.le_refl _), Worn_any wx.heap.size _ _ _ _ p _ _ _ _ l wx (O.thing 3 rfl) (O.thing 5 rfl) (Nat.le_refl _), rWorn_any wx.heap.size _ _ _ _ p _ _ _ _ l wx (O.thing 9 rfl) (O.thing 11 rfl) (Nat.le_refl _), samePort_any _ _ _ _ _ _ _ _ p wx (O.thing 3 rfl) (O.thing 9 rfl) (by have := HL.out.1.n1; omega) (by have := HL.out.1.n2; omega) (fun x hx => by have := HL.out.1.n3 x hx; omega), samePlan_any _ _ _ _ _ _ _ _ l wx (O.thing 5 rfl) (O.thing 11 rfl) (by have := HL.out.1.n4; omega) (by have := HL.out.1.n5; omega), sameState_any _ _ _ _ _ _ _ _ st wx (O.thing 4 rfl) ((H0.out.2.2.2.2.1.below O.bel).mono O.lo) (by have := HL.out.2; omega)⟩
    have HK := Lib.hid kk
    clear kk
    obtain ⟨sv, hsv⟩ : ∃ x, x = (staysV p l).length := ⟨_, rfl⟩
    obtain ⟨se, hse⟩ : ∃ x, x = staysE p l := ⟨_, rfl⟩
    have q0 : (se != se) = false := by simp
    have HV := Lib.hid (And.intro hsv hse)
    clear hsv hse
    go_upto_region 6 with (go_at_call 14; refine (HK.out _ H5.out).1.mono ?_; rintro e w5 ⟨A1, c1, q1, rfl, o1, -, hb⟩; have H6 := Lib.hid (And.intro (H5.out.below hb) o1); rw [← HV.out.1, ← HV.out.2]; clear hb o1; clear cq0 cq1 cq2 cq3 cq4 cq5 cq6 cq7 cq8 cq9 cq10 cq11 cq12 cq13 cq14 cq15 cq16 cq17 cq18 cq19 cq20 cq21 cq22 cq23 cq24)
    obtain ⟨cq0, cq1, cq2, cq3, cq4, cq5, cq6, cq7, cq8, cq9, cq10, cq11, cq12, cq13, cq14, cq15, cq16, cq17, cq18, cq19, cq20, cq21, cq22, cq23, cq24⟩ := HX.out w5 H6.out.1
    go_upto_region 7 with (go_at_call 36; refine (HK.out _ H6.out.1).2.1.mono ?_; rintro e w6 ⟨A2, c2, q2, rfl, o2, -, hb⟩; have H7 := Lib.hid (And.intro (H6.out.1.below hb) (And.intro (H6.out.2.rd.below hb) o2)); rw [← HV.out.1, ← HV.out.2]; clear hb o2; clear cq0 cq1 cq2 cq3 cq4 cq5 cq6 cq7 cq8 cq9 cq10 cq11 cq12 cq13 cq14 cq15 cq16 cq17 cq18 cq19 cq20 cq21 cq22 cq23 cq24)
    have ks : Calls Try.prog 37 #[.slice A1 sv c1, .slice A2 sv c2] w6 fun e w' => e = .returned (.bool true) ∧ Below w6.heap.size w6 w' := by
      rw [HV.out.1]; exact sameInts_any A1 c1 (staysV p l) A2 c2 w6 H7.out.2.1 H7.out.2.2.rd (by have := H7.out.2.2.ge; have := H7.out.2.2.capK; omega)
    have HS := Lib.hid ks
    clear ks
    obtain ⟨kv, hkv⟩ : ∃ x, x = keepsV p st l := ⟨_, rfl⟩
    obtain ⟨ke, hke⟩ : ∃ x, x = startE p st l := ⟨_, rfl⟩
    have q1 : (ke != ke) = false := by simp
    have q1b : (kv != kv) = false := by simp
    have HKV := Lib.hid (And.intro hkv hke)
    clear hkv hke
    go_upto_region 9 with (go_at_call 37; refine HS.out.mono ?_; rintro e w7 ⟨rfl, hb⟩; have H8 := Lib.hid (H7.out.1.below hb); clear hb)
    obtain ⟨cq0, cq1, cq2, cq3, cq4, cq5, cq6, cq7, cq8, cq9, cq10, cq11, cq12, cq13, cq14, cq15, cq16, cq17, cq18, cq19, cq20, cq21, cq22, cq23, cq24⟩ := HX.out w7 H8.out
    go_upto_region 10 with (go_at_call 18; refine (HK.out _ H8.out).2.2.1.mono ?_; rintro e w8 ⟨rfl, hb⟩; have H9 := Lib.hid (H8.out.below hb); rw [← HKV.out.1, ← HKV.out.2]; clear hb; clear cq0 cq1 cq2 cq3 cq4 cq5 cq6 cq7 cq8 cq9 cq10 cq11 cq12 cq13 cq14 cq15 cq16 cq17 cq18 cq19 cq20 cq21 cq22 cq23 cq24)
    obtain ⟨cq0, cq1, cq2, cq3, cq4, cq5, cq6, cq7, cq8, cq9, cq10, cq11, cq12, cq13, cq14, cq15, cq16, cq17, cq18, cq19, cq20, cq21, cq22, cq23, cq24⟩ := HX.out w8 H9.out
    go_upto_region 11 with (go_at_call 38; refine (HK.out _ H9.out).2.2.2.1.mono ?_; rintro e w9 ⟨rfl, hb⟩; have H10 := Lib.hid (H9.out.below hb); rw [← HKV.out.1, ← HKV.out.2]; clear hb; clear cq0 cq1 cq2 cq3 cq4 cq5 cq6 cq7 cq8 cq9 cq10 cq11 cq12 cq13 cq14 cq15 cq16 cq17 cq18 cq19 cq20 cq21 cq22 cq23 cq24)
    obtain ⟨wv, hwv⟩ : ∃ x, x = wornV p l := ⟨_, rfl⟩
    obtain ⟨wa, hwa⟩ : ∃ x, x = wornA p l := ⟨_, rfl⟩
    obtain ⟨we, hwe⟩ : ∃ x, x = wornE p l := ⟨_, rfl⟩
    have q2 : (wv == wv) = true := by simp
    have q3 : (wa == wa) = true := by simp
    have q4 : (we == we) = true := by simp
    have HWV := Lib.hid (And.intro hwv (And.intro hwa hwe))
    clear hwv hwa hwe
    obtain ⟨cq0, cq1, cq2, cq3, cq4, cq5, cq6, cq7, cq8, cq9, cq10, cq11, cq12, cq13, cq14, cq15, cq16, cq17, cq18, cq19, cq20, cq21, cq22, cq23, cq24⟩ := HX.out w9 H10.out
    go_upto_region 14 with (go_at_call 17; refine (HK.out _ H10.out).2.2.2.2.1.mono ?_; rintro e w10 ⟨rfl, hb⟩; have H11 := Lib.hid (H10.out.below hb); rw [← HWV.out.1, ← HWV.out.2.1, ← HWV.out.2.2]; clear hb; clear cq0 cq1 cq2 cq3 cq4 cq5 cq6 cq7 cq8 cq9 cq10 cq11 cq12 cq13 cq14 cq15 cq16 cq17 cq18 cq19 cq20 cq21 cq22 cq23 cq24)
    obtain ⟨cq0, cq1, cq2, cq3, cq4, cq5, cq6, cq7, cq8, cq9, cq10, cq11, cq12, cq13, cq14, cq15, cq16, cq17, cq18, cq19, cq20, cq21, cq22, cq23, cq24⟩ := HX.out w10 H11.out
    go_upto_region 15 with (go_at_call 39; refine (HK.out _ H11.out).2.2.2.2.2.1.mono ?_; rintro e w11 ⟨rfl, hb⟩; have H12 := Lib.hid (H11.out.below hb); rw [← HWV.out.1, ← HWV.out.2.1, ← HWV.out.2.2]; clear hb; clear cq0 cq1 cq2 cq3 cq4 cq5 cq6 cq7 cq8 cq9 cq10 cq11 cq12 cq13 cq14 cq15 cq16 cq17 cq18 cq19 cq20 cq21 cq22 cq23 cq24)
    obtain ⟨cq0, cq1, cq2, cq3, cq4, cq5, cq6, cq7, cq8, cq9, cq10, cq11, cq12, cq13, cq14, cq15, cq16, cq17, cq18, cq19, cq20, cq21, cq22, cq23, cq24⟩ := HX.out w11 H12.out
    go_wp2_with (first | (go_at_call 40; refine (HK.out _ H12.out).2.2.2.2.2.2.1.mono ?_; rintro e w12 ⟨rfl, hb⟩; have H13 := Lib.hid (H12.out.below hb); clear hb; clear cq0 cq1 cq2 cq3 cq4 cq5 cq6 cq7 cq8 cq9 cq10 cq11 cq12 cq13 cq14 cq15 cq16 cq17 cq18 cq19 cq20 cq21 cq22 cq23 cq24; obtain ⟨cq0, cq1, cq2, cq3, cq4, cq5, cq6, cq7, cq8, cq9, cq10, cq11, cq12, cq13, cq14, cq15, cq16, cq17, cq18, cq19, cq20, cq21, cq22, cq23, cq24⟩ := HX.out w12 H13.out) | (go_at_call 41; refine (HK.out _ H13.out).2.2.2.2.2.2.2.1.mono ?_; rintro e w13 ⟨rfl, hb⟩; have H14 := Lib.hid (H13.out.below hb); clear hb; clear cq0 cq1 cq2 cq3 cq4 cq5 cq6 cq7 cq8 cq9 cq10 cq11 cq12 cq13 cq14 cq15 cq16 cq17 cq18 cq19 cq20 cq21 cq22 cq23 cq24; obtain ⟨cq0, cq1, cq2, cq3, cq4, cq5, cq6, cq7, cq8, cq9, cq10, cq11, cq12, cq13, cq14, cq15, cq16, cq17, cq18, cq19, cq20, cq21, cq22, cq23, cq24⟩ := HX.out w13 H14.out) | (go_at_call 42; refine (HK.out _ H14.out).2.2.2.2.2.2.2.2.mono ?_; rintro e w14 ⟨rfl, hb⟩; have H15 := Lib.hid (H14.out.below hb).bel; clear hb; clear cq0 cq1 cq2 cq3 cq4 cq5 cq6 cq7 cq8 cq9 cq10 cq11 cq12 cq13 cq14 cq15 cq16 cq17 cq18 cq19 cq20 cq21 cq22 cq23 cq24) | (go_at_call 15; refine (awakeP_any _).mono ?_; rintro e w15 ⟨rfl, hb⟩; have H16 := Lib.hid (H15.out.trans (hb.mono H15.out.size)); clear hb))
    go_ret
    exact ⟨rfl, H16.out⟩
  · go_wp2_with (first | (go_at_call 30; refine H0.out.2.2.1.mono ?_; rintro e w1 ⟨rfl, hb⟩; have H1 := Lib.hid (H0.out.1.bel.trans (hb.mono H0.out.1.lo)); clear hb) | (go_at_call 15; refine (awakeP_any _).mono ?_; rintro e w2 ⟨rfl, hb⟩; have H2 := Lib.hid (H1.out.trans (hb.mono H1.out.size)); clear hb))
    go_ret
    exact ⟨rfl, H2.out⟩
end Go.Proofs.Ythmldeningpjbaa
