/- hull: first, last, ends, of any cell (printed by wip/tools/hull13.py) -/
import Derived.Test.YtalcinepeofmcaaDoorRSp13
import Derived.Test.YtalcinepeofmcaaDoorRSp12
import Derived.Test.YtalcinepeofmcaaDoorRSp10
set_option linter.unusedVariables false
set_option linter.unusedSimpArgs false
namespace Go.Proofs.YtalcinepeofmcaaDoor
open Go Go.RowKit Go.Shelf Go.Proofs Sp Hu
attribute [local go_sem] Oper.semAt_some
set_option linter.unusedVariables false
set_option linter.unusedSimpArgs false

def loI (x : Cel) : Ic := ⟨x.a0, x.b0, x.c0, x.d0⟩
def hiI (x : Cel) : Ic := ⟨x.a1, x.b1, x.c1, x.d1⟩
def icD (a b : Ic) : Bool := !(decide (a.con = b.con) && (decide (a.thk = b.thk) && (decide (a.rid = b.rid) && decide (a.prs = b.prs))))
def difC (x : Cel) : Bool := icD (loI x) (hiI x)
/-- the least and the most ice of a cell, once if they are the same -/
def endsL (x : Cel) : List Ic := if difC x = true then [loI x, hiI x] else [loI x]
theorem endsL_dif {x : Cel} (h : difC x = true) : endsL x = [loI x, hiI x] := by unfold endsL; rw [if_pos h]
theorem endsL_same {x : Cel} (h : difC x = false) : endsL x = [loI x] := by unfold endsL; rw [if_neg (by simp [h])]
theorem icD_no {a b : Ic} (h : icD a b = false) : a = b := by
  obtain ⟨a0, a1, a2, a3⟩ := a
  obtain ⟨b0, b1, b2, b3⟩ := b
  simp [icD] at h
  obtain ⟨rfl, rfl, rfl, rfl⟩ := h
  rfl
/-- an ice of the ends of a cell -/
structure EndI (x : Cel) where
  v : Ic
  h : v ∈ endsL x
theorem lo_mem (x : Cel) : loI x ∈ endsL x := by
  cases h : difC x
  · rw [endsL_same h]; simp
  · rw [endsL_dif h]; simp
theorem hi_mem {x : Cel} (h : difC x = true) : hiI x ∈ endsL x := by rw [endsL_dif h]; simp
def loE (x : Cel) : EndI x := ⟨loI x, lo_mem x⟩
theorem endsL_pre (x : Cel) : [loI x] <+: endsL x := by
  cases h : difC x
  · rw [endsL_same h]; exact List.prefix_refl _
  · rw [endsL_dif h]; exact ⟨[hiI x], rfl⟩

set_option maxRecDepth 100000 in
theorem hufirst2_any (x : Cel) (w : World) : Calls Tryd.prog 53 #[.agg (celA x)] w fun e w' => e = .returned (.agg (icV (loI x))) ∧ Below w.heap.size w w' := by
  obtain ⟨W, hW⟩ : ∃ W, W = (w.alloc (.cells (celA x) 30)).alloc (.cells #[.int .i64 0, .int .i64 0, .int .i64 0, .int .i64 0] 45) := ⟨_, rfl⟩
  obtain ⟨cb, hcb⟩ : ∃ b, b = w.heap.size := ⟨_, rfl⟩
  obtain ⟨rb, hrb⟩ : ∃ b, b = w.heap.size + 1 := ⟨_, rfl⟩
  have O : Own w.heap.size w [.blk cb (.cells (celA x) 30), .blk rb (.cells #[.int .i64 0, .int .i64 0, .int .i64 0, .int .i64 0] 45)] W := by
    have h := ((Own.start w).alloc (.cells (celA x) 30)).alloc (.cells #[.int .i64 0, .int .i64 0, .int .i64 0, .int .i64 0] 45)
    rw [hW, hcb, hrb]; simpa using h
  have hh := O.heap 0 rfl
  have hr := O.heap 1 rfl
  have s0 : W.cell? ⟨cb, 0, none⟩ = some _ := (cell_of_heap hh 0).trans rfl
  have s1 : W.cell? ⟨cb, 1, none⟩ = some _ := (cell_of_heap hh 1).trans rfl
  have s2 : W.cell? ⟨cb, 2, none⟩ = some _ := (cell_of_heap hh 2).trans rfl
  have s3 : W.cell? ⟨cb, 3, none⟩ = some _ := (cell_of_heap hh 3).trans rfl
  have s4 : W.cell? ⟨cb, 4, none⟩ = some _ := (cell_of_heap hh 4).trans rfl
  have s5 : W.cell? ⟨cb, 5, none⟩ = some _ := (cell_of_heap hh 5).trans rfl
  have s6 : W.cell? ⟨cb, 6, none⟩ = some _ := (cell_of_heap hh 6).trans rfl
  have s7 : W.cell? ⟨cb, 7, none⟩ = some _ := (cell_of_heap hh 7).trans rfl
  have zs := heap_lt hh
  have zr := heap_lt hr
  have r0 := (cell_of_heap hr 0).trans rfl
  have f0 := frozen_of_heap hr 0
  have r1 := (cell_of_heap hr 1).trans rfl
  have f1 := frozen_of_heap hr 1
  have r2 := (cell_of_heap hr 2).trans rfl
  have f2 := frozen_of_heap hr 2
  have r3 := (cell_of_heap hr 3).trans rfl
  have f3 := frozen_of_heap hr 3
  have hge : w.heap.size ≤ rb := by omega
  have HO := Lib.hid (And.intro O hr)
  clear O hh hr
  go_enter Tryd.func53, Tryd.ntmps53
  go_upto_region 1 with fail
  rw [← hW, ← hrb, ← hcb]
  clear hW hrb hcb
  go_wp2_with fail
  exact bodyPost_ret (ice_results rfl (i := loI x) (st4_heap HO.out.2 _ _ _ _) _ rfl) rfl ⟨rfl, (((HO.out.1.bel.setCell hge _).setCell hge _).setCell hge _).setCell hge _⟩

set_option maxRecDepth 100000 in
theorem hulast2_any (x : Cel) (w : World) : Calls Tryd.prog 54 #[.agg (celA x)] w fun e w' => e = .returned (.agg (icV (hiI x))) ∧ Below w.heap.size w w' := by
  obtain ⟨W, hW⟩ : ∃ W, W = (w.alloc (.cells (celA x) 30)).alloc (.cells #[.int .i64 0, .int .i64 0, .int .i64 0, .int .i64 0] 45) := ⟨_, rfl⟩
  obtain ⟨cb, hcb⟩ : ∃ b, b = w.heap.size := ⟨_, rfl⟩
  obtain ⟨rb, hrb⟩ : ∃ b, b = w.heap.size + 1 := ⟨_, rfl⟩
  have O : Own w.heap.size w [.blk cb (.cells (celA x) 30), .blk rb (.cells #[.int .i64 0, .int .i64 0, .int .i64 0, .int .i64 0] 45)] W := by
    have h := ((Own.start w).alloc (.cells (celA x) 30)).alloc (.cells #[.int .i64 0, .int .i64 0, .int .i64 0, .int .i64 0] 45)
    rw [hW, hcb, hrb]; simpa using h
  have hh := O.heap 0 rfl
  have hr := O.heap 1 rfl
  have s0 : W.cell? ⟨cb, 0, none⟩ = some _ := (cell_of_heap hh 0).trans rfl
  have s1 : W.cell? ⟨cb, 1, none⟩ = some _ := (cell_of_heap hh 1).trans rfl
  have s2 : W.cell? ⟨cb, 2, none⟩ = some _ := (cell_of_heap hh 2).trans rfl
  have s3 : W.cell? ⟨cb, 3, none⟩ = some _ := (cell_of_heap hh 3).trans rfl
  have s4 : W.cell? ⟨cb, 4, none⟩ = some _ := (cell_of_heap hh 4).trans rfl
  have s5 : W.cell? ⟨cb, 5, none⟩ = some _ := (cell_of_heap hh 5).trans rfl
  have s6 : W.cell? ⟨cb, 6, none⟩ = some _ := (cell_of_heap hh 6).trans rfl
  have s7 : W.cell? ⟨cb, 7, none⟩ = some _ := (cell_of_heap hh 7).trans rfl
  have zs := heap_lt hh
  have zr := heap_lt hr
  have r0 := (cell_of_heap hr 0).trans rfl
  have f0 := frozen_of_heap hr 0
  have r1 := (cell_of_heap hr 1).trans rfl
  have f1 := frozen_of_heap hr 1
  have r2 := (cell_of_heap hr 2).trans rfl
  have f2 := frozen_of_heap hr 2
  have r3 := (cell_of_heap hr 3).trans rfl
  have f3 := frozen_of_heap hr 3
  have hge : w.heap.size ≤ rb := by omega
  have HO := Lib.hid (And.intro O hr)
  clear O hh hr
  go_enter Tryd.func54, Tryd.ntmps54
  go_upto_region 1 with fail
  rw [← hW, ← hrb, ← hcb]
  clear hW hrb hcb
  go_wp2_with fail
  exact bodyPost_ret (ice_results rfl (i := hiI x) (st4_heap HO.out.2 _ _ _ _) _ rfl) rfl ⟨rfl, (((HO.out.1.bel.setCell hge _).setCell hge _).setCell hge _).setCell hge _⟩

theorem ice_neq2 (a b : Ic) (w : World) : (binOp .neq 45 (.agg (icV a)) (.agg (icV b))).run Tryd.prog w = .ok (.bool (icD a b)) w := by
  have u3 := Tryd.underlying3
  have a3 := Tryd.isAgg3
  have z3 := Tryd.sizeOf3
  have hS : Tryd.prog.underlying 45 = some (.struct (Tryd.prog.fieldsOf 45)) := by kernel_rfl
  have hp : Tryd.prog.stoodInHeld 45 = false := by kernel_rfl
  rw [run_neq_struct, show (10000 : Nat) = 9999 + 1 from rfl, run_equalIn_agg w 9999 45 _ _ hS hp]
  simp only [Program.fieldsOf, Tryd.underlying45]
  obtain ⟨a0, a1, a2, a3'⟩ := a
  obtain ⟨b0, b1, b2, b3'⟩ := b
  by_cases h0 : a0 = b0
  · subst h0
    by_cases h1 : a1 = b1
    · subst h1
      by_cases h2 : a2 = b2
      · subst h2
        by_cases h3 : a3' = b3'
        · subst h3; simp only [icD]; go_simp
        · have e : (a3' == b3') = false := by simpa using h3
          simp only [icD]; go_simp
      · have e : (a2 == b2) = false := by simpa using h2
        simp only [icD]; go_simp
    · have e : (a1 == b1) = false := by simpa using h1
      simp only [icD]; go_simp
  · have e : (a0 == b0) = false := by simpa using h0
    simp only [icD]; go_simp

theorem huends2_any (x : Cel) (w : World) : Calls Tryd.prog 26 #[.agg (celA x)] w fun e w' => ∃ xb, e = .returned (.func (.func 52) #[] #[.pointer (some ⟨xb, 0, none⟩)]) ∧ w.heap.size ≤ xb ∧ w'.heap[xb]? = some (.cells (celA x) 30 (0, 0)) ∧ Below w.heap.size w w' := by
  have bX : Below w.heap.size w (w.alloc (.cells (celA x) 30)) := (Below.refl _ _).alloc (Nat.le_refl _) _
  have hX := heap_alloc_new w (.cells (celA x) 30)
  have H := Lib.hid (And.intro hX bX)
  clear hX bX
  go_enter Tryd.func26, Tryd.ntmps26
  go_wp2_with fail
  go_ret
  exact ⟨_, rfl, Nat.le_refl _, H.out⟩

def En2V (l0 : Nat) (x : Cel) (s : Bool) : Nat → Value → Prop
  | 0, v => v = .func (.yield l0) #[] #[]
  | 1, v => v = .agg (celA x)
  | 2, v => v = .agg (icV (loI x))
  | 3, v => v = .bool s
  | 4, v => v = .bool s
  | 5, v => s = true → v = .agg (celA x)
  | 6, v => s = true → v = .agg (icV (loI x))
  | 7, v => s = true → v = .agg (celA x)
  | 8, v => s = true → v = .agg (icV (hiI x))
  | 9, v => s = true → v = .bool (difC x)
  | 10, v => v = .bool (s && difC x)
  | _, _ => True
def En2W (x : Cel) (xb : Nat) (J0 J1 Jx : World → Prop) (s : Bool) (l : Nat → Bool) (w : World) : Prop :=
  if l 3 then (s = true ∧ J1 w ∧ w.heap[xb]? = some (.cells (celA x) 30 (0, 0))) ∨ (s = false ∧ Jx w) else J0 w ∧ w.heap[xb]? = some (.cells (celA x) 30 (0, 0))

set_option maxRecDepth 100000 in
set_option maxHeartbeats 4000000 in
theorem ends2_stops (x : Cel) (xb : Nat) (free : Nat → Obj → Prop) (hfree : ∀ cs fr, ¬ free xb (.cells cs 30 fr)) (w : World) (hx0 : w.heap[xb]? = some (.cells (celA x) 30 (0, 0))) (n : Nat) (hn : 1 ≤ n) :
    SeqStopsK Fence.wide n Tryd.prog 52 #[.pointer (some ⟨xb, 0, none⟩)] (fun y : EndI x => #[.agg (icV y.v)]) (KpH free) (fun xs => xs.map EndI.v = endsL x) (fun pre => pre.map EndI.v <+: endsL x) 10 w := by
  intro l J Jx W hW hJ hJx hY h0
  have hX : W.heap[xb]? = some (.cells (celA x) 30 (0, 0)) := (hW.block _ (heap_lt hx0)).trans hx0
  have HY := Lib.hid (And.intro hJ (And.intro hJx (And.intro hY (And.intro h0 hX))))
  have st : ∀ (pre : List (EndI x)) (a b : World), J pre a → Below a.heap.size a b → J pre b := fun pre a b hj hb => hJ _ a b none hj (grownH_of_below hb) (fun r e => by cases e)
  have HS := Lib.hid st
  clear hJ hJx hY h0 hX hW hx0 st
  refine callsIn_of_wp Tryd.func52 rfl trivial ?_ rfl
  simp only [Tryd.ntmps52, List.size_toArray, List.length_cons, List.length_nil, Nat.reduceAdd, Nat.reduceSub, Array.replicate_succ, Array.replicate_zero, List.push_toArray, List.append_toArray, List.nil_append, List.cons_append]
  gi_upto_region 0 with fail
  refine wpIn_region_stepsI (σ := Bool) (by kernel_rfl) (by kernel_rfl) (fun sg jx vx _ => En2V l x sg jx vx) (fun sg ly wx => En2W x xb (J []) (J [loE x]) (Jx [loE x]) sg ly wx) false ?_ ?_ ?_
  · unfold En2W
    rw [if_neg (by simp)]
    exact ⟨HS.out _ _ _ HY.out.2.2.2.1 (Below.refl _ _).drew, HY.out.2.2.2.2⟩
  · simp only [AllFrom, Nat.zero_add, Nat.reduceAdd]
    refine ⟨?_, ?_, ?_, ?_, ?_, ?_, ?_, ?_, ?_, ?_, ?_, trivial⟩
    · refine stepI_plain rfl ?_
      refine stepin_pure fun sg ly a wr hl hd hW hF => ?_
      have et0 := hF.old 0 (by kernel_rfl)
      simp [Act.eval] at et0
      exact ⟨by simpa [En2W, upd] using hW, .func (.yield l) #[] #[], by go_simp, rfl⟩
    · refine stepI_plain rfl ?_
      refine stepin_pure fun sg ly a wr hl hd hW hF => ?_
      have et1 := hF.old 1 (by kernel_rfl)
      simp [Act.eval] at et1
      have n2 := hF.notYet 1 2 hl (by kernel_rfl)
      have n3 := hF.notYet 2 3 n2 (by kernel_rfl)
      have hW' := hW
      unfold En2W at hW'
      rw [if_neg (by simp [n3])] at hW'
      have hx := hW'.2
      have q0 := (cell_of_heap hx 0).trans rfl; have q1 := (cell_of_heap hx 1).trans rfl; have q2 := (cell_of_heap hx 2).trans rfl; have q3 := (cell_of_heap hx 3).trans rfl; have q4 := (cell_of_heap hx 4).trans rfl; have q5 := (cell_of_heap hx 5).trans rfl; have q6 := (cell_of_heap hx 6).trans rfl; have q7 := (cell_of_heap hx 7).trans rfl
      have zx := heap_lt hx
      exact ⟨by simpa [En2W, upd] using hW, .agg (celA x), by go_simp, rfl⟩
    · refine stepI_plain rfl ?_
      refine stepin_call fun sg ly a wr hl hd hW hF => ?_
      simp [Region.binds] at hd
      have et4 := hF.new 1 4 (by simp [hd]) rfl
      simp [En2V, Act.eval] at et4
      have n3 := hF.notYet 2 3 hl (by kernel_rfl)
      have hW' := hW
      unfold En2W at hW'
      rw [if_neg (by simp [n3])] at hW'
      have hx := hW'.2
      refine ⟨53, #[.agg (celA x)], by go_simp, ?_⟩
      refine (hufirst2_any x wr).mono ?_
      rintro e w2 ⟨rfl, hb⟩
      refine ⟨_, sg, rfl, ?_, rfl, fun _ _ _ h => h⟩
      unfold En2W
      rw [if_neg (by simp [upd, n3])]
      exact ⟨HS.out _ _ _ hW'.1 hb, (hb.block _ (heap_lt hx)).trans hx⟩
    · refine stepI_plain rfl ?_
      refine stepin_round fun sg ly a wr hl hd hW hF => ?_
      simp [Region.binds] at hd
      have et3 := hF.new 0 3 (by simp [hd]) rfl
      simp [En2V, Act.eval] at et3
      have et5 := hF.new 2 5 (by simp [hd]) rfl
      simp [En2V, Act.eval] at et5
      have hW' := hW
      unfold En2W at hW'
      rw [if_neg (by simp [hl])] at hW'
      have n4 := hF.notYet 3 4 hl (by kernel_rfl)
      have n5 := hF.notYet 4 5 n4 (by kernel_rfl)
      have n6 := hF.notYet 5 6 n5 (by kernel_rfl)
      have n7 := hF.notYet 4 7 n4 (by kernel_rfl)
      have n8 := hF.notYet 7 8 n7 (by kernel_rfl)
      have n9 := hF.notYet 8 9 n8 (by kernel_rfl)
      have n10 := hF.notYet 9 10 n9 (by kernel_rfl)
      obtain ⟨fn, tmps, assign, body, hy, hR⟩ := HY.out.2.2.1 [] (loE x) wr hW'.1 (by simp)
      dsimp only [loE] at hy
      refine ⟨l, fn, tmps, assign, body, by go_simp, hR.mono ?_⟩
      rintro e W3 (⟨rfl, hJ3, hk3⟩ | ⟨rfl, hJ3⟩)
      · refine ⟨_, true, rfl, by unfold En2W; rw [if_pos (by simp [upd])]; exact .inl ⟨rfl, hJ3, hk3.same _ _ hW'.2 rfl (hfree _ _)⟩, rfl, ?_⟩
        intro j u hi h
        have i3 : j ≠ 3 := by rintro rfl; rw [hl] at hi; cases hi
        have i4 : j ≠ 4 := by rintro rfl; rw [n4] at hi; cases hi
        have i5 : j ≠ 5 := by rintro rfl; rw [n5] at hi; cases hi
        have i6 : j ≠ 6 := by rintro rfl; rw [n6] at hi; cases hi
        have i7 : j ≠ 7 := by rintro rfl; rw [n7] at hi; cases hi
        have i8 : j ≠ 8 := by rintro rfl; rw [n8] at hi; cases hi
        have i9 : j ≠ 9 := by rintro rfl; rw [n9] at hi; cases hi
        have i10 : j ≠ 10 := by rintro rfl; rw [n10] at hi; cases hi
        unfold En2V at h ⊢
        split at h <;> first | exact h | exact absurd rfl i3 | exact absurd rfl i4 | exact absurd rfl i5 | exact absurd rfl i6 | exact absurd rfl i7 | exact absurd rfl i8 | exact absurd rfl i9 | exact absurd rfl i10
      · refine ⟨_, false, rfl, by unfold En2W; rw [if_pos (by simp [upd])]; exact .inr ⟨rfl, hJ3⟩, rfl, ?_⟩
        intro j u hi h
        have i3 : j ≠ 3 := by rintro rfl; rw [hl] at hi; cases hi
        have i4 : j ≠ 4 := by rintro rfl; rw [n4] at hi; cases hi
        have i5 : j ≠ 5 := by rintro rfl; rw [n5] at hi; cases hi
        have i6 : j ≠ 6 := by rintro rfl; rw [n6] at hi; cases hi
        have i7 : j ≠ 7 := by rintro rfl; rw [n7] at hi; cases hi
        have i8 : j ≠ 8 := by rintro rfl; rw [n8] at hi; cases hi
        have i9 : j ≠ 9 := by rintro rfl; rw [n9] at hi; cases hi
        have i10 : j ≠ 10 := by rintro rfl; rw [n10] at hi; cases hi
        unfold En2V at h ⊢
        split at h <;> first | exact h | exact absurd rfl i3 | exact absurd rfl i4 | exact absurd rfl i5 | exact absurd rfl i6 | exact absurd rfl i7 | exact absurd rfl i8 | exact absurd rfl i9 | exact absurd rfl i10
    · refine stepI_plain rfl ?_
      refine stepin_pure fun sg ly a wr hl hd hW hF => ?_
      simp [Region.binds] at hd
      have et6 := hF.new 3 6 (by simp [hd]) rfl
      simp [En2V, Act.eval] at et6
      exact ⟨by simpa [En2W, upd] using hW, .bool sg, by go_simp, rfl⟩
    · refine stepI_if (fun s => s) ?_ ?_ ?_
      · intro sg ly a wr hd hF
        simp [Region.binds] at hd
        exact (wanted_eq hF (g := 4) (d := 7) (z := sg) (b := true) rfl rfl (by simp [hd]) (fun v hv => hv)).trans (by cases sg <;> rfl)
      · intro sg ly a wr hz hl hd hW hF
        simp [Region.binds] at hd
        have et1 := hF.old 1 (by kernel_rfl)
        simp [Act.eval] at et1
        have y3 : ly 3 = true := hF.before 3 4 (by simp [hd]) (by kernel_rfl)
        have hW' := hW
        unfold En2W at hW'
        rw [if_pos y3] at hW'
        obtain ⟨_, hj, hx⟩ := hW'.resolve_right (fun h => by rw [h.1] at hz; cases hz)
        have q0 := (cell_of_heap hx 0).trans rfl; have q1 := (cell_of_heap hx 1).trans rfl; have q2 := (cell_of_heap hx 2).trans rfl; have q3 := (cell_of_heap hx 3).trans rfl; have q4 := (cell_of_heap hx 4).trans rfl; have q5 := (cell_of_heap hx 5).trans rfl; have q6 := (cell_of_heap hx 6).trans rfl; have q7 := (cell_of_heap hx 7).trans rfl
        have zx := heap_lt hx
        refine at_pure (φ := fun sg jx vx _ => En2V l x sg jx vx) (W := fun sg ly wx => En2W x xb (J []) (J [loE x]) (Jx [loE x]) sg ly wx) (s := sg) (l := ly) (i := 5) ?_
        exact ⟨by simpa [En2W, upd] using hW, .agg (celA x), by go_simp, fun _ => rfl⟩
      · intro sg ly wr hz hl hW
        exact ⟨by simpa [En2W, upd] using hW, by simp [En2V, hz]⟩
    · refine stepI_if (fun s => s) ?_ ?_ ?_
      · intro sg ly a wr hd hF
        simp [Region.binds] at hd
        exact (wanted_eq hF (g := 4) (d := 7) (z := sg) (b := true) rfl rfl (by simp [hd]) (fun v hv => hv)).trans (by cases sg <;> rfl)
      · intro sg ly a wr hz hl hd hW hF
        simp [Region.binds] at hd
        have et8 := hF.new 5 8 (by simp [hd]) rfl
        simp [En2V, Act.eval, hz] at et8
        have y3 : ly 3 = true := hF.before 3 4 (by simp [hd]) (by kernel_rfl)
        have hW' := hW
        unfold En2W at hW'
        rw [if_pos y3] at hW'
        obtain ⟨_, hj, hx⟩ := hW'.resolve_right (fun h => by rw [h.1] at hz; cases hz)
        refine at_call (φ := fun sg jx vx _ => En2V l x sg jx vx) (W := fun sg ly wx => En2W x xb (J []) (J [loE x]) (Jx [loE x]) sg ly wx) (s := sg) (l := ly) (i := 6) ?_
        refine ⟨53, #[.agg (celA x)], by go_simp, ?_⟩
        refine (hufirst2_any x wr).mono ?_
        rintro e w2 ⟨rfl, hb⟩
        refine ⟨_, sg, rfl, ?_, fun _ => rfl, fun _ _ _ h => h⟩
        unfold En2W
        rw [if_pos (by simp [upd, y3])]
        exact .inl ⟨hz, HS.out _ _ _ hj hb, (hb.block _ (heap_lt hx)).trans hx⟩
      · intro sg ly wr hz hl hW
        exact ⟨by simpa [En2W, upd] using hW, by simp [En2V, hz]⟩
    · refine stepI_if (fun s => s) ?_ ?_ ?_
      · intro sg ly a wr hd hF
        simp [Region.binds] at hd
        exact (wanted_eq hF (g := 4) (d := 7) (z := sg) (b := true) rfl rfl (by simp [hd]) (fun v hv => hv)).trans (by cases sg <;> rfl)
      · intro sg ly a wr hz hl hd hW hF
        simp [Region.binds] at hd
        have et1 := hF.old 1 (by kernel_rfl)
        simp [Act.eval] at et1
        have y3 : ly 3 = true := hF.before 3 4 (by simp [hd]) (by kernel_rfl)
        have hW' := hW
        unfold En2W at hW'
        rw [if_pos y3] at hW'
        obtain ⟨_, hj, hx⟩ := hW'.resolve_right (fun h => by rw [h.1] at hz; cases hz)
        have q0 := (cell_of_heap hx 0).trans rfl; have q1 := (cell_of_heap hx 1).trans rfl; have q2 := (cell_of_heap hx 2).trans rfl; have q3 := (cell_of_heap hx 3).trans rfl; have q4 := (cell_of_heap hx 4).trans rfl; have q5 := (cell_of_heap hx 5).trans rfl; have q6 := (cell_of_heap hx 6).trans rfl; have q7 := (cell_of_heap hx 7).trans rfl
        have zx := heap_lt hx
        refine at_pure (φ := fun sg jx vx _ => En2V l x sg jx vx) (W := fun sg ly wx => En2W x xb (J []) (J [loE x]) (Jx [loE x]) sg ly wx) (s := sg) (l := ly) (i := 7) ?_
        exact ⟨by simpa [En2W, upd] using hW, .agg (celA x), by go_simp, fun _ => rfl⟩
      · intro sg ly wr hz hl hW
        exact ⟨by simpa [En2W, upd] using hW, by simp [En2V, hz]⟩
    · refine stepI_if (fun s => s) ?_ ?_ ?_
      · intro sg ly a wr hd hF
        simp [Region.binds] at hd
        exact (wanted_eq hF (g := 4) (d := 7) (z := sg) (b := true) rfl rfl (by simp [hd]) (fun v hv => hv)).trans (by cases sg <;> rfl)
      · intro sg ly a wr hz hl hd hW hF
        simp [Region.binds] at hd
        have et10 := hF.new 7 10 (by simp [hd]) rfl
        simp [En2V, Act.eval, hz] at et10
        have y3 : ly 3 = true := hF.before 3 4 (by simp [hd]) (by kernel_rfl)
        have hW' := hW
        unfold En2W at hW'
        rw [if_pos y3] at hW'
        obtain ⟨_, hj, hx⟩ := hW'.resolve_right (fun h => by rw [h.1] at hz; cases hz)
        refine at_call (φ := fun sg jx vx _ => En2V l x sg jx vx) (W := fun sg ly wx => En2W x xb (J []) (J [loE x]) (Jx [loE x]) sg ly wx) (s := sg) (l := ly) (i := 8) ?_
        refine ⟨54, #[.agg (celA x)], by go_simp, ?_⟩
        refine (hulast2_any x wr).mono ?_
        rintro e w2 ⟨rfl, hb⟩
        refine ⟨_, sg, rfl, ?_, fun _ => rfl, fun _ _ _ h => h⟩
        unfold En2W
        rw [if_pos (by simp [upd, y3])]
        exact .inl ⟨hz, HS.out _ _ _ hj hb, (hb.block _ (heap_lt hx)).trans hx⟩
      · intro sg ly wr hz hl hW
        exact ⟨by simpa [En2W, upd] using hW, by simp [En2V, hz]⟩
    · refine stepI_if (fun s => s) ?_ ?_ ?_
      · intro sg ly a wr hd hF
        simp [Region.binds] at hd
        exact (wanted_eq hF (g := 4) (d := 7) (z := sg) (b := true) rfl rfl (by simp [hd]) (fun v hv => hv)).trans (by cases sg <;> rfl)
      · intro sg ly a wr hz hl hd hW hF
        simp [Region.binds] at hd
        have et9 := hF.new 6 9 (by simp [hd]) rfl
        simp [En2V, Act.eval, hz] at et9
        have et11 := hF.new 8 11 (by simp [hd]) rfl
        simp [En2V, Act.eval, hz] at et11
        have hq := ice_neq2 (loI x) (hiI x)
        have hdq : icD (loI x) (hiI x) = difC x := rfl
        rw [hdq] at hq
        refine at_pure (φ := fun sg jx vx _ => En2V l x sg jx vx) (W := fun sg ly wx => En2W x xb (J []) (J [loE x]) (Jx [loE x]) sg ly wx) (s := sg) (l := ly) (i := 9) ?_
        exact ⟨by simpa [En2W, upd] using hW, .bool (difC x), by go_simp, fun _ => rfl⟩
      · intro sg ly wr hz hl hW
        exact ⟨by simpa [En2W, upd] using hW, by simp [En2V, hz]⟩
    · refine stepI_plain rfl ?_
      refine stepin_pure fun sg ly a wr hl hd hW hF => ?_
      simp [Region.binds] at hd
      have et7 := hF.new 4 7 (by simp [hd]) rfl
      simp [En2V, Act.eval] at et7
      have et12 := hF.new 9 12 (by simp [hd]) rfl
      simp [En2V, Act.eval] at et12
      refine ⟨by simpa [En2W, upd] using hW, .bool (sg && difC x), ?_, rfl⟩
      cases sg
      · go_simp
      · have et12' := et12 rfl
        cases hd2 : difC x <;> (rw [hd2] at et12'; go_simp)
  intro sg a w5 hWW hF
  have e13 := hF.new 10 13 (by decide) rfl
  obtain ⟨f5, hf5, rfl⟩ := hF.lit
  rw [← hf5] at e13
  simp only [En2V] at e13
  have hw5 : (sg = true ∧ J [loE x] w5 ∧ w5.heap[xb]? = some (.cells (celA x) 30 (0, 0))) ∨ (sg = false ∧ Jx [loE x] w5) := by
    have h5 := hWW
    unfold En2W at h5
    rw [if_pos (by simp)] at h5
    exact h5
  clear hf5 hF hWW
  simp only [List.filterMap, List.foldl, List.setIfInBounds_toArray, List.set_cons_succ, List.set_cons_zero, e13]
  clear e13
  rcases hw5 with ⟨rfl, hj, hx⟩ | ⟨rfl, hj⟩
  · cases hd : difC x
    · have HZ := Lib.hid (And.intro hj hd)
      clear hj hx hd
      gi_wp2
      go_end0
      exact ⟨⟨_, rfl⟩, .inl ⟨[loE x], (endsL_same HZ.out.2).symm, HZ.out.1⟩⟩
    · have HZ := Lib.hid (And.intro hj (And.intro hd hx))
      have q_ := hx
      have q0 := (cell_of_heap hx 0).trans rfl; have q1 := (cell_of_heap hx 1).trans rfl; have q2 := (cell_of_heap hx 2).trans rfl; have q3 := (cell_of_heap hx 3).trans rfl; have q4 := (cell_of_heap hx 4).trans rfl; have q5 := (cell_of_heap hx 5).trans rfl; have q6 := (cell_of_heap hx 6).trans rfl; have q7 := (cell_of_heap hx 7).trans rfl
      have zx := heap_lt hx
      have kl := hulast2_any x w5
      have KL := Lib.hid kl
      have hyy : ∀ wx, Below w5.heap.size w5 wx → J [loE x] wx := fun wx hb => HS.out _ _ _ HZ.out.1 hb
      have HYY := Lib.hid hyy
      clear hj hx hd kl hyy q_
      gi_wp2_with (refine ⟨trivial, ?_⟩; gi_at_call 54; refine (callsIn_wide.2 KL.out).mono ?_; rintro e w6 ⟨rfl, b6⟩; have H6 := Lib.hid b6; obtain ⟨fn, tmps, assign, body, hy, hR⟩ := HY.out.2.2.1 [loE x] ⟨hiI x, hi_mem HZ.out.2.1⟩ w6 (HYY.out w6 b6) (by simp); dsimp only at hy; have HR := Lib.hid hR; clear hR b6 q0 q1 q2 q3 q4 q5 q6 q7 zx)
      refine HR.out.mono ?_
      rintro e W3 (⟨rfl, hJ3, hk3⟩ | ⟨rfl, hJ3⟩)
      · have HQ := Lib.hid hJ3
        clear hJ3 hk3
        gi_wp2
        go_end0
        exact ⟨⟨_, rfl⟩, .inl ⟨[loE x] ++ [(⟨hiI x, hi_mem HZ.out.2.1⟩ : EndI x)], (by have e := endsL_dif HZ.out.2.1; show [loI x, hiI x] = endsL x; rw [e]), HQ.out⟩⟩
      · have HQ := Lib.hid hJ3
        clear hJ3
        gi_wp2
        go_end0
        exact ⟨⟨_, rfl⟩, .inr ⟨[loE x] ++ [⟨hiI x, hi_mem HZ.out.2.1⟩], by have e := endsL_dif HZ.out.2.1; show [loI x, hiI x] <+: endsL x; rw [e]; exact List.prefix_refl _, HQ.out⟩⟩
  · have HZ := Lib.hid hj
    clear hj
    rw [Bool.false_and]
    gi_wp2
    go_end0
    exact ⟨⟨_, rfl⟩, .inr ⟨[loE x], endsL_pre x, HZ.out⟩⟩

end Go.Proofs.YtalcinepeofmcaaDoor
/- hull: Limit; port: Takes (printed by wip/tools/hull6.py) -/
namespace Go.Proofs.YtalcinepeofmcaaDoor
open Go Go.RowKit Sp Hu
set_option linter.unusedVariables false
set_option linter.unusedSimpArgs false

set_option linter.unusedVariables false
def Hl1V (sb : Nat) (n vv : Int) (ch z : Bool) (s : Unit) : Nat → Value → Prop
  | 0, v => v = .int .i64 n
  | 1, v => v = .agg #[.int .i64 100, .int .i64 n, .int .i64 0, .int .i64 0]
  | 2, v => v = .bool ch
  | 3, v => v = .agg #[.pointer (some ⟨sb, 0, none⟩), .int .i64 100, .int .i64 n, .int .i64 0, .int .i64 0, .bool ch]
  | 4, v => v = .int .i64 vv
  | 5, v => v = .bool z
  | 6, v => v = .bool z
  | _, _ => True

/-- what Limit answers: the greatest thickness, or that there is none, or that the ship is wrong -/
def LimPost (s : Shp) (v : Int) (ch : Bool) (w : World) (e : Ending) (w' : World) : Prop :=
  ∃ t k, e = .returned (.tuple #[.int .i64 t, .int .i64 k]) ∧ ((k = 0 ∧ shipE s = 0 ∧ Grt (fun n => makes s (lvl n) ch v) 0 400 t) ∨ (k = 4 ∧ shipE s = 0 ∧ makes s (lvl 0) ch v = false ∧ t = 0) ∨ (k = shipE s ∧ k ≠ 0 ∧ t = 0)) ∧ Below w.heap.size w w'

end Go.Proofs.YtalcinepeofmcaaDoor
/- hull: Speeds, Beset, of a cell of one ice (printed by wip/tools/hull9.py) -/
namespace Go.Proofs.YtalcinepeofmcaaDoor
open Go Go.RowKit Go.Shelf Go.Proofs Sp Hu
attribute [local go_sem] Oper.semAt_some
set_option linter.unusedVariables false
set_option linter.unusedSimpArgs false

/-- what Speeds may write while it ranges -/
def freeSp (B : Nat) (k : Nat) (o : Obj) : Prop := B ≤ k ∧ ∃ cs fr, o = .cells cs 28 fr
theorem own_sp {β : Type} (b : Nat) (G : List β → Int → Int → Prop) : Go.Own (fun pre W => ∃ lo hi : Int, W.heap[b]? = some (.cells #[.int .i64 lo, .int .i64 hi] 28 (0, 0)) ∧ G pre lo hi) := by
  rintro s X Y row ⟨lo, hi, ha, hG⟩ hg hrow
  exact ⟨lo, hi, (hg.block b (heap_lt ha) (fun e => by obtain ⟨o, ho, hc⟩ := hrow b e.symm; rw [ha] at ho; cases ho; cases hc)).trans ha, hG⟩
/-- the two ends so far -/
def SpG (s : Shp) (i : Ic) (ch : Bool) (pre : List (OneI i)) (lo hi : Int) : Prop :=
  (0 ≤ lo ∧ lo ≤ 250 ∧ 0 ≤ hi ∧ hi ≤ 250) ∧ (pre = [] → lo = 250 ∧ hi = 0) ∧ (pre ≠ [] → (lo < 10 ↔ makes s i ch 10 = false) ∧ (hi < 10 ↔ makes s i ch 10 = false))
theorem spG_snoc {s : Shp} {i : Ic} {ch : Bool} {pre : List (OneI i)} {x : OneI i} {lo hi v a' b' : Int} (h : SpG s i ch pre lo hi) (hv : 0 ≤ v ∧ v ≤ 250) (hq : v < 10 ↔ makes s i ch 10 = false) (ha : a' = if v < lo then v else lo) (hb : b' = if hi < v then v else hi) : SpG s i ch (pre ++ [x]) a' b' := by
  subst ha; subst hb
  obtain ⟨h1, h2, h3⟩ := h
  refine ⟨by split <;> split <;> omega, fun e => by simp at e, fun _ => ?_⟩
  rw [← hq]
  by_cases hp : pre = []
  · obtain ⟨rfl, rfl⟩ := h2 hp
    constructor <;> split <;> omega
  · obtain ⟨a, b⟩ := h3 hp
    rw [← hq] at a b
    constructor <;> split <;> omega
theorem sp_results2 {F : Func} {r s : Nat} (hF : F.results = #[.cell r 28, .tmp s]) {W : World} {b : Nat} {lo hi : Int} (h : W.heap[b]? = some (.cells #[.int .i64 lo, .int .i64 hi] 28 (0, 0))) (tmps : Array Value) (v : Value) (hr : tmps.getD r undef = .pointer (some ⟨b, 0, none⟩)) (hs : tmps.getD s undef = v) :
    (results F tmps).run Tryd.prog W = .ok (.tuple #[.agg #[.int .i64 lo, .int .i64 hi], v]) W := by
  have g8 : tmps[r]?.getD undef = .pointer (some ⟨b, 0, none⟩) := by simpa using hr
  have g9 : tmps[s]?.getD undef = v := by simpa using hs
  have c0 : W.cell? ⟨b, 0, none⟩ = some (.int .i64 lo) := (cell_of_heap h 0).trans rfl
  have c1 : W.cell? ⟨b, 1, none⟩ = some (.int .i64 hi) := (cell_of_heap h 1).trans rfl
  simp [results, hF, g8, g9, asAddr, go_sem, c0, c1]
def SpsPost (s : Shp) (i : Ic) (ch : Bool) (w : World) (e : Ending) (w' : World) : Prop :=
  ∃ lo hi : Int, e = .returned (.tuple #[.agg #[.int .i64 lo, .int .i64 hi], .int .i64 0]) ∧ (lo < 10 ↔ makes s i ch 10 = false) ∧ (hi < 10 ↔ makes s i ch 10 = false) ∧ Below w.heap.size w w'

set_option maxRecDepth 100000 in
set_option maxHeartbeats 4000000 in
theorem speeds_any (At : Option Addr) (ct : Nat) (Aw : Option Addr) (cw : Nat) (Ai : Option Addr) (ci : Nat) (s : Shp) (i : Ic) (ch : Bool) (w : World) (R : ShR At Aw Ai s w) (h0 : shipE s = 0) (hi : IcOk i) :
    Calls Tryd.prog 44 #[.agg (shpV At ct Aw cw Ai ci s), .agg (justV i), .bool ch] w (SpsPost s i ch w) := by
  obtain ⟨W, hW⟩ : ∃ W, W = (((w.alloc (.cells (shpV At ct Aw cw Ai ci s) 25)).alloc (.cells (justV i) 30)).alloc (.cells #[.bool ch] 4)).alloc (.cells #[.int .i64 0, .int .i64 0] 28) := ⟨_, rfl⟩
  obtain ⟨sb, hsb⟩ : ∃ b, b = w.heap.size := ⟨_, rfl⟩
  obtain ⟨cb, hcb⟩ : ∃ b, b = w.heap.size + 1 := ⟨_, rfl⟩
  obtain ⟨hb, hhb⟩ : ∃ b, b = w.heap.size + 1 + 1 := ⟨_, rfl⟩
  obtain ⟨rb, hrb⟩ : ∃ b, b = w.heap.size + 1 + 1 + 1 := ⟨_, rfl⟩
  have O : Own w.heap.size w [.blk sb (.cells (shpV At ct Aw cw Ai ci s) 25), .blk cb (.cells (justV i) 30), .blk hb (.cells #[.bool ch] 4), .blk rb (.cells #[.int .i64 0, .int .i64 0] 28)] W := by
    have h := ((((Own.start w).alloc (.cells (shpV At ct Aw cw Ai ci s) 25)).alloc (.cells (justV i) 30)).alloc (.cells #[.bool ch] 4)).alloc (.cells #[.int .i64 0, .int .i64 0] 28)
    rw [hW, hsb, hcb, hhb, hrb]; simpa using h
  have RX := R.below O.bel
  have km := met_any At ct Aw cw Ai ci s (justC i) W RX
  have hE : metE s (justC i) = 0 := by unfold metE; rw [if_neg (by simpa using h0)]; exact celE_just hi
  rw [hE] at km
  have sok := shipE_ok h0
  have L0 : ShL s := ⟨sok.1, sok.2.2.2.2.2.1, sok.2.2.2.2.2.2.1, sok.2.2.2.2.2.2.2.1, sok.2.2.1⟩
  have hge : w.heap.size ≤ sb ∧ w.heap.size ≤ cb ∧ w.heap.size ≤ hb ∧ w.heap.size ≤ rb := by omega
  have HM := Lib.hid (And.intro km (And.intro O (And.intro R (And.intro sok (And.intro L0 hi)))))
  have s_ := O.heap 0 rfl
  have c_ := O.heap 1 rfl
  have s0 : W.cell? ⟨sb, 0, none⟩ = some _ := (cell_of_heap s_ 0).trans rfl
  have s1 : W.cell? ⟨sb, 1, none⟩ = some _ := (cell_of_heap s_ 1).trans rfl
  have s2 : W.cell? ⟨sb, 2, none⟩ = some _ := (cell_of_heap s_ 2).trans rfl
  have s3 : W.cell? ⟨sb, 3, none⟩ = some _ := (cell_of_heap s_ 3).trans rfl
  have s4 : W.cell? ⟨sb, 4, none⟩ = some _ := (cell_of_heap s_ 4).trans rfl
  have s5 : W.cell? ⟨sb, 5, none⟩ = some _ := (cell_of_heap s_ 5).trans rfl
  have s6 : W.cell? ⟨sb, 6, none⟩ = some _ := (cell_of_heap s_ 6).trans rfl
  have s7 : W.cell? ⟨sb, 7, none⟩ = some _ := (cell_of_heap s_ 7).trans rfl
  have s8 : W.cell? ⟨sb, 8, none⟩ = some _ := (cell_of_heap s_ 8).trans rfl
  have s9 : W.cell? ⟨sb, 9, none⟩ = some _ := (cell_of_heap s_ 9).trans rfl
  have s10 : W.cell? ⟨sb, 10, none⟩ = some _ := (cell_of_heap s_ 10).trans rfl
  have k0 : W.cell? ⟨cb, 0, none⟩ = some _ := (cell_of_heap c_ 0).trans rfl
  have k1 : W.cell? ⟨cb, 1, none⟩ = some _ := (cell_of_heap c_ 1).trans rfl
  have k2 : W.cell? ⟨cb, 2, none⟩ = some _ := (cell_of_heap c_ 2).trans rfl
  have k3 : W.cell? ⟨cb, 3, none⟩ = some _ := (cell_of_heap c_ 3).trans rfl
  have k4 : W.cell? ⟨cb, 4, none⟩ = some _ := (cell_of_heap c_ 4).trans rfl
  have k5 : W.cell? ⟨cb, 5, none⟩ = some _ := (cell_of_heap c_ 5).trans rfl
  have k6 : W.cell? ⟨cb, 6, none⟩ = some _ := (cell_of_heap c_ 6).trans rfl
  have k7 : W.cell? ⟨cb, 7, none⟩ = some _ := (cell_of_heap c_ 7).trans rfl
  have zs := heap_lt s_
  have zc := heap_lt c_
  clear O RX km hE h0 sok L0 s_ c_
  refine (callsIn_wide (n := 9)).1 ?_
  refine callsIn_of_wp_marks Tryd.func44 rfl trivial ?_ rfl
  simp only [Tryd.ntmps44, List.size_toArray, List.length_cons, List.length_nil, Nat.reduceAdd, Nat.reduceSub, Array.replicate_succ, Array.replicate_zero, List.push_toArray, List.append_toArray, List.nil_append, List.cons_append]
  gi_upto_region 1 with fail
  rw [← hW, ← hrb, ← hhb, ← hcb, ← hsb]
  clear hW hrb hhb hcb hsb
  gi_upto_region 2 with (refine ⟨trivial, ?_⟩; gi_at_call 24; refine (callsIn_wide.2 HM.out.1).mono ?_; rintro e w1 ⟨rfl, b1⟩; have H1 := Lib.hid b1; clear b1 s0 s1 s2 s3 s4 s5 s6 s7 s8 s9 s10 k0 k1 k2 k3 k4 k5 k6 k7 zs zc)
  gi_upto_region 5 with fail
  obtain ⟨ob, hob⟩ : ∃ b, b = w1.heap.size := ⟨_, rfl⟩
  obtain ⟨W2, hW2⟩ : ∃ W2, W2 = w1.alloc (.cells #[.int .i64 250, .int .i64 0] 28) := ⟨_, rfl⟩
  have O2 : Own w.heap.size w [.blk sb (.cells (shpV At ct Aw cw Ai ci s) 25), .blk cb (.cells (justV i) 30), .blk hb (.cells #[.bool ch] 4), .blk rb (.cells #[.int .i64 0, .int .i64 0] 28), .blk ob (.cells #[.int .i64 250, .int .i64 0] 28)] W2 := by
    have h := (HM.out.2.1.below H1.out).alloc (.cells #[.int .i64 250, .int .i64 0] 28)
    rw [hW2, hob]; exact h
  have c_ := O2.heap 1 rfl
  have k0 : W2.cell? ⟨cb, 0, none⟩ = some _ := (cell_of_heap c_ 0).trans rfl
  have k1 : W2.cell? ⟨cb, 1, none⟩ = some _ := (cell_of_heap c_ 1).trans rfl
  have k2 : W2.cell? ⟨cb, 2, none⟩ = some _ := (cell_of_heap c_ 2).trans rfl
  have k3 : W2.cell? ⟨cb, 3, none⟩ = some _ := (cell_of_heap c_ 3).trans rfl
  have k4 : W2.cell? ⟨cb, 4, none⟩ = some _ := (cell_of_heap c_ 4).trans rfl
  have k5 : W2.cell? ⟨cb, 5, none⟩ = some _ := (cell_of_heap c_ 5).trans rfl
  have k6 : W2.cell? ⟨cb, 6, none⟩ = some _ := (cell_of_heap c_ 6).trans rfl
  have k7 : W2.cell? ⟨cb, 7, none⟩ = some _ := (cell_of_heap c_ 7).trans rfl
  have zc := heap_lt c_
  have H2 := Lib.hid O2
  clear O2 c_
  rw [← hW2, ← hob]
  have hlt : rb < ob ∧ sb < ob ∧ hb < ob := by
    have h := HM.out.2.1.below H1.out
    have h1 := heap_lt (h.heap 3 rfl)
    have h2 := heap_lt (h.heap 0 rfl)
    have h3 := heap_lt (h.heap 2 rfl)
    omega
  clear hW2 hob
  have ke := huends_any i W2
  gi_wp2_with (refine ⟨trivial, ?_⟩; gi_at_call 26; refine (callsIn_wide.2 ke).mono ?_; rintro e w3 ⟨xb, rfl, hx1, hx2, b3⟩; have H3 := Lib.hid (And.intro hx1 (And.intro hx2 b3)); clear hx1 hx2 b3 k0 k1 k2 k3 k4 k5 k6 k7 zc ke)
  have hbw : Below w.heap.size w w3 := H2.out.bel.trans (H3.out.2.2.mono H2.out.bel.size)
  have O3 := H2.out.below H3.out.2.2
  have rs := O3.heap 0 rfl
  have rh := O3.heap 2 rfl
  have rr := O3.heap 3 rfl
  have ro := O3.heap 4 rfl
  have hbs := hbw.size
  have H4 := Lib.hid (And.intro hbw (And.intro rs (And.intro rh (And.intro rr ro))))
  have HR := Lib.hid (And.intro R hi)
  have hgo : w.heap.size ≤ ob := by omega
  have hsz : ∀ W : World, Below w.heap.size w W → w.heap.size ≤ W.heap.size := fun W h => h.size
  clear O3 R hi
  refine wpIn_rangeFunc_ownH rfl (by omega) (gf := 52) (lb := #[.pointer (some ⟨xb, 0, none⟩)]) rfl trivial (enters_of Tryd.func52 (by kernel_rfl) rfl)
    (ends1_stops i xb (freeSp w.heap.size) (fun cs fr h => by obtain ⟨_, cs', fr', e⟩ := h; injection e with _ e _; exact absurd e (by decide)) w3 H3.out.2.1 _ (by omega))
    (fun h h' => h.trans h') (fun W l o o' _ hl ho _ => KpH.putObj hl ho o') (Below.refl _ _) (fun _ => rfl)
    (fun pre W => ((((∃ lo hi : Int, W.heap[ob]? = some (.cells #[.int .i64 lo, .int .i64 hi] 28 (0, 0)) ∧ SpG s i ch pre lo hi) ∧ W.heap[rb]? = some (.cells #[.int .i64 0, .int .i64 0] 28 (0, 0))) ∧ W.heap[sb]? = some (.cells (shpV At ct Aw cw Ai ci s) 25 (0, 0))) ∧ W.heap[hb]? = some (.cells #[.bool ch] 4 (0, 0))) ∧ Below w.heap.size w W)
    (fun _ _ _ => False)
    (OwnFrom.and (OwnFrom.and (OwnFrom.and (OwnFrom.and (Go.Own.from (own_sp ob (SpG s i ch)) _) (Go.Own.from (ownH_cells rb (fun _ : List (OneI i) => .cells #[.int .i64 0, .int .i64 0] 28 (0, 0)) (fun _ => rfl)) _)) (Go.Own.from (ownH_cells sb (fun _ : List (OneI i) => .cells (shpV At ct Aw cw Ai ci s) 25 (0, 0)) (fun _ => rfl)) _)) (Go.Own.from (ownH_cells hb (fun _ : List (OneI i) => .cells #[.bool ch] 4 (0, 0)) (fun _ => rfl)) _)) (ownFrom_below (Nat.le_refl _) hbs))
    (fun _ _ _ _ _ hs _ _ => hs)
    ⟨⟨⟨⟨⟨250, 0, ro, ⟨by omega, fun _ => ⟨rfl, rfl⟩, fun h => absurd rfl h⟩⟩, rr⟩, rs⟩, rh⟩, hbw⟩
    (fun x a' W => ∃ Bx, w.heap.size ≤ Bx ∧ W.heap[Bx]? = some (.cells (icV x.1) 45 (0, 0)) ∧
      a' = { tmps := #[.agg (shpV At ct Aw cw Ai ci s), .agg (justV i), .bool ch, .pointer (some ⟨sb, 0, none⟩), .pointer (some ⟨cb, 0, none⟩), .pointer (some ⟨hb, 0, none⟩), .pointer (some ⟨rb, 0, none⟩), .int .i64 0, .int .i64 0, .pointer (some ⟨ob, 0, none⟩), .pointer (some ⟨Bx, 0, none⟩), undef,
        .agg (shpV At ct Aw cw Ai ci s), .agg (justV i), .int .i64 0, .int .i64 0, .bool false, undef, undef, .agg #[.int .i64 250, .int .i64 0], .agg (justV i), .func (.func 52) #[] #[.pointer (some ⟨xb, 0, none⟩)], .agg (icV x.1), undef, undef, undef, undef, undef, undef, undef, undef, undef, undef, undef, undef, undef, undef, undef], defers := [] })
    (fun x a' s X Y row hs hg hrow => by
      obtain ⟨Bx, h1, h2, h3⟩ := hs
      refine ⟨Bx, h1, (hg.block Bx (heap_lt h2) (fun e => ?_)).trans h2, h3⟩
      obtain ⟨_, o, ho, hc⟩ := hrow Bx e.symm
      rw [h2] at ho; cases ho; cases hc)
    ?assign ?body ?done ?stop
  case assign =>
    rintro l pre x W K ⟨⟨⟨⟨⟨lo, hi, ho, hG⟩, hr⟩, hs⟩, hh⟩, hB⟩ hK
    gi_wp2
    exact hK _ _ ((KeepsOthers.alloc _ _).from _) (KpH.alloc _ _) ⟨⟨⟨⟨⟨lo, hi, heap_alloc' ho _, hG⟩, heap_alloc' hr _⟩, heap_alloc' hs _⟩, heap_alloc' hh _⟩, hB.alloc hB.size _⟩ ⟨W.heap.size, hsz W hB, heap_alloc_new W _, rfl⟩
  case body =>
    rintro l pre ⟨x, hx⟩ a' W hlw ⟨r, hr'⟩ ⟨⟨⟨⟨⟨lo, hi, ho, hG⟩, hr⟩, hs⟩, hh⟩, hB⟩ ⟨Bx, hBx, bX, rfl⟩ hlt
    have hx' : i = x := hx.symm
    subst hx'
    have E : ShE ⟨sb, At, ct, Aw, cw, Ai, ci, s⟩ W := ⟨hs, (HR.out.1.below hB).rt, (HR.out.1.below hB).rw_, (HR.out.1.below hB).ri⟩
    have kj := speed_any ⟨sb, At, ct, Aw, cw, Ai, ci, s⟩ i ch W E HM.out.2.2.2.2.1 HR.out.2
    have x0 := (cell_of_heap bX 0).trans rfl
    have x1 := (cell_of_heap bX 1).trans rfl
    have x2 := (cell_of_heap bX 2).trans rfl
    have x3 := (cell_of_heap bX 3).trans rfl
    have y0 := (cell_of_heap hh 0).trans rfl
    have zx := heap_lt bX
    have zy := heap_lt hh
    have zs := heap_lt hs
    have hA := Lib.hid (And.intro ho (And.intro hG (And.intro hr (And.intro hs (And.intro hh (And.intro hB bX))))))
    have HJ := Lib.hid kj
    clear ho hG hr hs hh hB bX kj E
    gi_wp2_with (refine ⟨trivial, ?_⟩; gi_at_call 72; refine (CallsIn.inRound l (callsIn_wide.2 HJ.out)).mono ?_; rintro e w2 ⟨v, bv, rfl, hg, b2⟩; have ho2 := (b2.block ob (heap_lt hA.out.1)).trans hA.out.1; have p0 := frozen_of_heap ho2 0; have p1 := frozen_of_heap ho2 1; have zo2 := heap_lt ho2; have c0 := (cell_of_heap ho2 0).trans rfl; have c1 := (cell_of_heap ho2 1).trans rfl; have HB2 := Lib.hid (And.intro b2 (And.intro ho2 hg)); clear b2 ho2 hg)
    all_goals
      obtain ⟨b2, ho2, hg⟩ := HB2.out
      obtain ⟨ho, hG, hr, hs, hh, hB, bX⟩ := hA.out
      have sp := speed_iff HM.out.2.2.2.1.1 HR.out.2 hg
      have hr2 := (b2.block rb (heap_lt hr)).trans hr
      have hs2 := (b2.block sb (heap_lt hs)).trans hs
      have hh2 := (b2.block hb (heap_lt hh)).trans hh
      refine ⟨?_, ?_, ⟨⟨⟨⟨⟨_, _, heap_set (heap_set ho2 0 _) 1 _, spG_snoc hG sp.1 sp.2 (by split <;> omega) (by split <;> omega)⟩, ?_⟩, ?_⟩, ?_⟩, ?_⟩⟩
      · exact ((KeepsOthers.mk b2.size fun i o hi _ => (b2.block i (heap_lt hi)).trans hi).trans ((KeepsOthers.setCell _ _ _).trans (KeepsOthers.setCell _ _ _))).from _
      · refine ⟨by simpa using b2.size, fun j o hj hc hf => ?_⟩
        have hjo : j ≠ ob := fun e => hf (by subst e; rw [ho] at hj; cases hj; exact ⟨hgo, _, _, rfl⟩)
        exact heap_set_ne (heap_set_ne ((b2.block j (heap_lt hj)).trans hj) (fun e => hjo e) _) (fun e => hjo e) _
      · exact heap_set_ne (heap_set_ne hr2 (by simp; omega) _) (by simp; omega) _
      · exact heap_set_ne (heap_set_ne hs2 (by simp; omega) _) (by simp; omega) _
      · exact heap_set_ne (heap_set_ne hh2 (by simp; omega) _) (by simp; omega) _
      · exact ((hB.trans (b2.mono hB.size)).setCell hgo _).setCell hgo _
  case done =>
    rintro D ys W hD2 rfl ⟨⟨⟨⟨⟨lo, hi, ho, hG⟩, hr⟩, hs⟩, hh⟩, hB⟩ hK
    have e := hG.2.2 (by simp)
    have o0 := (cell_of_heap ho 0).trans rfl
    have o1 := (cell_of_heap ho 1).trans rfl
    have r0 := (cell_of_heap hr 0).trans rfl
    have r1 := (cell_of_heap hr 1).trans rfl
    have p0 := frozen_of_heap hr 0
    have p1 := frozen_of_heap hr 1
    have zo := heap_lt ho
    have zr := heap_lt hr
    have hA := Lib.hid (And.intro ho (And.intro e (And.intro hr (And.intro hB hK))))
    clear ho hG hr hs hh hB hK e
    gi_wp2
    obtain ⟨ho, e, hr, hB, hK⟩ := hA.out
    have hrD : D ≠ rb := fun q => by subst q; rw [hr] at hK; cases hK
    have hK2 : ((W.setCell ⟨rb, 0, none⟩ (.int .i64 lo)).setCell ⟨rb, 1, none⟩ (.int .i64 hi)).heap[D]? = some (.deferred (some [])) :=
      heap_set_ne (heap_set_ne hK (fun q => hrD q) _) (fun q => hrD q) _
    refine ⟨by simp, .inl ⟨_, _, rfl, run_takeDeferred hK2, ?_⟩⟩
    refine ⟨_, sp_results2 (r := 6) (s := 7) rfl (W := _) (b := rb) (lo := lo) (hi := hi) ((World.putObj_heap_other (fun q => hrD q.symm)).trans (heap_set (heap_set hr 0 _) 1 _)) _ _ rfl rfl, lo, hi, rfl, e.1, e.2, ?_⟩
    exact ((hB.setCell hge.2.2.2 _).setCell hge.2.2.2 _).trans (belowK_b (w := w) (Nat.le_refl _) _ D _ _ (by omega) hK2 rfl rfl)
  case stop =>
    rintro D c pre W _ _ h _
    exact h.elim

theorem results3P {fn : Func} {t u v : Tmp} (h : fn.results = #[.tmp t, .tmp u, .tmp v]) (tmps : Array Value) (P : Program) (w : World) :
    (results fn tmps).run P w = .ok (.tuple #[tmps.getD t undef, tmps.getD u undef, tmps.getD v undef]) w := by
  simp [results, h]
set_option maxRecDepth 100000 in
set_option maxHeartbeats 4000000 in
theorem beset_any (At : Option Addr) (ct : Nat) (Aw : Option Addr) (cw : Nat) (Ai : Option Addr) (ci : Nat) (s : Shp) (i : Ic) (ch : Bool) (w : World) (R : ShR At Aw Ai s w) (h0 : shipE s = 0) (hi : IcOk i) :
    Calls Tryd.prog 13 #[.agg (shpV At ct Aw cw Ai ci s), .agg (justV i), .bool ch] w fun e w' => e = .returned (.tuple #[.bool (!makes s i ch 10), .bool (!makes s i ch 10), .int .i64 0]) ∧ Below w.heap.size w w' := by
  obtain ⟨W, hW⟩ : ∃ W, W = (w.alloc (.cells (shpV At ct Aw cw Ai ci s) 25)).alloc (.cells (justV i) 30) := ⟨_, rfl⟩
  obtain ⟨sb, hsb⟩ : ∃ b, b = w.heap.size := ⟨_, rfl⟩
  obtain ⟨cb, hcb⟩ : ∃ b, b = w.heap.size + 1 := ⟨_, rfl⟩
  have O : Own w.heap.size w [.blk sb (.cells (shpV At ct Aw cw Ai ci s) 25), .blk cb (.cells (justV i) 30)] W := by
    have h := ((Own.start w).alloc (.cells (shpV At ct Aw cw Ai ci s) 25)).alloc (.cells (justV i) 30)
    rw [hW, hsb, hcb]; simpa using h
  have km := speeds_any At ct Aw cw Ai ci s i ch W (R.below O.bel) h0 hi
  obtain ⟨m, hm⟩ : ∃ m, m = makes s i ch 10 := ⟨_, rfl⟩
  unfold SpsPost at km
  rw [← hm] at km ⊢
  have HM := Lib.hid (And.intro km O)
  have s_ := O.heap 0 rfl
  have c_ := O.heap 1 rfl
  have s0 : W.cell? ⟨sb, 0, none⟩ = some _ := (cell_of_heap s_ 0).trans rfl
  have s1 : W.cell? ⟨sb, 1, none⟩ = some _ := (cell_of_heap s_ 1).trans rfl
  have s2 : W.cell? ⟨sb, 2, none⟩ = some _ := (cell_of_heap s_ 2).trans rfl
  have s3 : W.cell? ⟨sb, 3, none⟩ = some _ := (cell_of_heap s_ 3).trans rfl
  have s4 : W.cell? ⟨sb, 4, none⟩ = some _ := (cell_of_heap s_ 4).trans rfl
  have s5 : W.cell? ⟨sb, 5, none⟩ = some _ := (cell_of_heap s_ 5).trans rfl
  have s6 : W.cell? ⟨sb, 6, none⟩ = some _ := (cell_of_heap s_ 6).trans rfl
  have s7 : W.cell? ⟨sb, 7, none⟩ = some _ := (cell_of_heap s_ 7).trans rfl
  have s8 : W.cell? ⟨sb, 8, none⟩ = some _ := (cell_of_heap s_ 8).trans rfl
  have s9 : W.cell? ⟨sb, 9, none⟩ = some _ := (cell_of_heap s_ 9).trans rfl
  have s10 : W.cell? ⟨sb, 10, none⟩ = some _ := (cell_of_heap s_ 10).trans rfl
  have k0 : W.cell? ⟨cb, 0, none⟩ = some _ := (cell_of_heap c_ 0).trans rfl
  have k1 : W.cell? ⟨cb, 1, none⟩ = some _ := (cell_of_heap c_ 1).trans rfl
  have k2 : W.cell? ⟨cb, 2, none⟩ = some _ := (cell_of_heap c_ 2).trans rfl
  have k3 : W.cell? ⟨cb, 3, none⟩ = some _ := (cell_of_heap c_ 3).trans rfl
  have k4 : W.cell? ⟨cb, 4, none⟩ = some _ := (cell_of_heap c_ 4).trans rfl
  have k5 : W.cell? ⟨cb, 5, none⟩ = some _ := (cell_of_heap c_ 5).trans rfl
  have k6 : W.cell? ⟨cb, 6, none⟩ = some _ := (cell_of_heap c_ 6).trans rfl
  have k7 : W.cell? ⟨cb, 7, none⟩ = some _ := (cell_of_heap c_ 7).trans rfl
  have zs := heap_lt s_
  have zc := heap_lt c_
  clear O km s_ c_ hm
  go_enter Tryd.func13, Tryd.ntmps13
  go_upto_region 1 with fail
  rw [← hW, ← hcb, ← hsb]
  clear hW hcb hsb
  go_upto_region 4 with (go_at_call 44; refine HM.out.1.mono ?_; rintro e w1 ⟨lo, hi, rfl, q1, q2, b1⟩; have H1 := Lib.hid (And.intro q1 (And.intro q2 b1)); clear b1 q1 q2 s0 s1 s2 s3 s4 s5 s6 s7 s8 s9 s10 k0 k1 k2 k3 k4 k5 k6 k7 zs zc)
  obtain ⟨ob, hob⟩ : ∃ b, b = w1.heap.size := ⟨_, rfl⟩
  obtain ⟨W2, hW2⟩ : ∃ W2, W2 = w1.alloc (.cells #[.int .i64 lo, .int .i64 hi] 28) := ⟨_, rfl⟩
  have O2 : Own w.heap.size w [.blk sb (.cells (shpV At ct Aw cw Ai ci s) 25), .blk cb (.cells (justV i) 30), .blk ob (.cells #[.int .i64 lo, .int .i64 hi] 28)] W2 := by
    have h := (HM.out.2.below H1.out.2.2).alloc (.cells #[.int .i64 lo, .int .i64 hi] 28)
    rw [hW2, hob]; exact h
  have c_ := O2.heap 2 rfl
  have k0 := (cell_of_heap c_ 0).trans rfl
  have k1 := (cell_of_heap c_ 1).trans rfl
  have zc := heap_lt c_
  have H2 := Lib.hid O2.bel
  clear O2 c_
  rw [← hW2, ← hob]
  clear hW2 hob
  go_quiet (fail)
  go_wp2_with fail
  refine bodyPost_ret (results3P rfl _ _ _) rfl ⟨?_, below_drewN H2.out _⟩
  have q1 := H1.out.1
  have q2 := H1.out.2.1
  cases m <;> simp at q1 q2 <;> simp [q1, q2]

end Go.Proofs.YtalcinepeofmcaaDoor
