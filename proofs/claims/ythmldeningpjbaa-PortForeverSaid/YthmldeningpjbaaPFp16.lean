/- polynyalaw09.CopyPlan (printed by wip/tools/ptcopyplan.py) -/
import Derived.Test.YthmldeningpjbaaPFp14
import Derived.Test.YthmldeningpjbaaPFp9
import Derived.Test.YthmldeningpjbaaPFp15
import Derived.Deep.DeepCutAuto
set_option linter.unusedVariables false
set_option linter.unusedSimpArgs false
namespace Go.Proofs.Ythmldeningpjbaa
open Go Go.RowKit Sp Pt
set_option linter.unusedVariables false
set_option linter.unusedSimpArgs false

set_option linter.unusedVariables false
def CppV (ob n1 n2 cl cs : Nat) (Al As : Option Addr) (s : Cl2S) : Nat → Value → Prop
  | 0, v => v = .pointer (some ⟨ob, 1, none⟩)
  | 1, v => v = .slice Al n1 cl
  | 2, v => v = .slice s.A1 n1 s.c1
  | 3, v => v = .pointer (some ⟨ob, 2, none⟩)
  | 4, v => v = .slice As n2 cs
  | 5, v => v = .slice s.A2 n2 s.c2
  | 6, v => v = .pointer (some ⟨ob, 1, none⟩)
  | 8, v => v = .pointer (some ⟨ob, 2, none⟩)
  | _, _ => True

set_option maxRecDepth 100000 in
set_option maxHeartbeats 4000000 in
theorem copyPlan_any (D : Nat) (Al : Option Addr) (cl : Nat) (As : Option Addr) (cs : Nat) (l : Pln) (w : World) (hp : PlnB D w Al cl As cs l) (hD : D ≤ w.heap.size) (hl : l.calls.length ≤ 100000000) (hs : l.swps.length ≤ 100000000) :
    Calls Try.prog 33 #[.agg (plnV Al cl As cs l)] w (NewPln w l) := by
  obtain ⟨W, hW⟩ : ∃ W, W = (w.alloc (.cells (plnV Al cl As cs l) 31)).alloc (.cells #[.int .i64 0, .slice none 0 0, .slice none 0 0] 31) := ⟨_, rfl⟩
  obtain ⟨ob, hob⟩ : ∃ b, b = w.heap.size := ⟨_, rfl⟩
  obtain ⟨rb, hrb⟩ : ∃ b, b = w.heap.size + 1 := ⟨_, rfl⟩
  have b0 : Below w.heap.size w W := by rw [hW]; exact ((Below.refl _ _).alloc (Nat.le_refl _) _).alloc (by simp) _
  have h1 : W.heap[ob]? = some (.cells (plnV Al cl As cs l) 31 (0, 0)) := by rw [hW, hob]; exact heap_alloc' (heap_alloc_new _ _) _
  have h2 : W.heap[rb]? = some (.cells #[.int .i64 0, .slice none 0 0, .slice none 0 0] 31 (0, 0)) := by
    rw [hW, hrb]
    have := heap_alloc_new (w.alloc (.cells (plnV Al cl As cs l) 31)) (.cells #[.int .i64 0, .slice none 0 0, .slice none 0 0] 31)
    rwa [World.size_alloc] at this
  have hp1 := hp.below (b0.mono hD)
  obtain ⟨n1, hn1⟩ : ∃ n, n = l.calls.length := ⟨_, rfl⟩
  obtain ⟨n2, hn2⟩ : ∃ n, n = l.swps.length := ⟨_, rfl⟩
  obtain ⟨h, hh⟩ : ∃ h, h = l.hours := ⟨_, rfl⟩
  have hDW : D ≤ W.heap.size := Nat.le_trans hD b0.size
  have C1 := fun wx (hk : Keep [ob] W wx) => cloneCal_any Al n1 cl (cacs l.calls) wx (by have bw := b0.trans (hk.below b0.size (by simp [hob])); rw [hn1]; exact (hp.calls.below (bw.mono hD)).rd (by have := bw.size; omega)) (by intro u hu; obtain ⟨x, _, hx⟩ := List.mem_flatMap.1 hu; simp [cac] at hx; rcases hx with rfl | rfl | rfl | rfl | rfl | rfl <;> rfl) (fun e => ⟨by have := hp.c1.2.2 e; have := hp.c1.1; omega, hp.c1.2.2 e⟩) (by omega)
  have C2 := fun wx (hk : Keep [ob] W wx) => cloneSwp_any As n2 cs (swcs l.swps) wx (by have bw := b0.trans (hk.below b0.size (by simp [hob])); rw [hn2]; exact (hp.swps.below (bw.mono hD)).rd (by have := bw.size; omega)) (by intro u hu; obtain ⟨x, _, hx⟩ := List.mem_flatMap.1 hu; simp [swc] at hx; rcases hx with rfl | rfl | rfl <;> rfl) (fun e => ⟨by have := hp.c2.2.2 e; have := hp.c2.1; omega, hp.c2.2.2 e⟩) (by omega)
  have HC := Lib.hid (And.intro C1 C2)
  have hx : W.heap[ob]? = some (.cells #[.int .i64 h, .slice Al n1 cl, .slice As n2 cs] 31 (0, 0)) := by rw [hn1, hn2, hh]; exact h1
  have HX := Lib.hid hx
  have hne : rb ≠ ob := by omega
  have zo := heap_lt h1
  have zr := heap_lt h2
  have HO := Lib.hid (And.intro h2 (And.intro b0 (And.intro hob (And.intro hrb (And.intro hn1 (And.intro hn2 hh))))))
  simp only [plnV]
  rw [← hn1, ← hn2, ← hh]
  clear C1 C2 h1 h2 hx hp1 hp hDW b0 hl hs
  go_enter Try.func33, Try.ntmps33
  go_upto_region 1 with fail
  rw [← hW, ← hrb, ← hob]
  clear hW hob hrb hn1 hn2 hh
  refine wp_region_steps (σ := Cl2S) (by kernel_rfl) (by kernel_rfl) (fun sg jx vx _ => CppV ob n1 n2 cl cs Al As sg jx vx) (fun sg ly wx => Cl2W ⟨55, 6, n1, cacs l.calls, 126, 3, n2, swcs l.swps, ob, 31⟩ 2 5 (fun s l => #[.int .i64 h, if l 7 then .slice s.A1 n1 s.c1 else .slice Al n1 cl, if l 9 then .slice s.A2 n2 s.c2 else .slice As n2 cs]) W sg ly wx) ⟨none, 0, [], none, 0, []⟩ ?_ ?_ ?_
  · exact Cl2W.start HX.out
  · simp only [AllFrom, Nat.zero_add, Nat.reduceAdd]
    refine ⟨?_, ?_, ?_, ?_, ?_, ?_, ?_, ?_, ?_, ?_, trivial⟩
    · refine step_pure fun sg ly a wr hl hd hW hF => ?_
      have et1 := hF.old 1 (by kernel_rfl)
      simp [Act.eval] at et1
      exact ⟨hW.other 0 (by decide) (by decide) (by simp [upd]), .pointer (some ⟨ob, 1, none⟩), by go_simp, rfl⟩
    · refine step_pure fun sg ly a wr hl hd hW hF => ?_
      simp [Region.binds] at hd
      have et3 := hF.new 0 3 (by simp [hd]) rfl
      simp [CppV, Act.eval] at et3
      have n7 := hF.notYet 1 7 hl (by kernel_rfl)
      have hh := hW.hob
      have cL := (cell_of_heap hh 1).trans rfl
      try simp only [n7, if_false, Bool.false_eq_true] at cL
      have zL := heap_lt hh
      exact ⟨hW.other 1 (by decide) (by decide) (by simp [upd]), .slice Al n1 cl, by go_simp, rfl⟩
    · refine step_call fun sg ly a wr hl hd hW hF => ?_
      simp [Region.binds] at hd
      have et4 := hF.new 1 4 (by simp [hd]) rfl
      simp [CppV, Act.eval] at et4
      have n7 := hF.notYet 2 7 hl (by kernel_rfl)
      refine ⟨89, #[.slice Al n1 cl], by go_simp, ?_⟩
      refine (HC.out.1 wr hW.kp).mono ?_
      rintro e w2 ⟨A', c', q, rfl, h1, h2, h3⟩
      refine ⟨_, { sg with A1 := A', c1 := c', q1 := q }, rfl, hW.call1 (by decide) h1 h2 h3 (by simp [upd, n7]), rfl, ?_⟩
      intro i u hi h
      have i2 : i ≠ 2 := by rintro rfl; rw [hl] at hi; cases hi
      have i7 : i ≠ 7 := by rintro rfl; rw [n7] at hi; cases hi
      unfold CppV at h ⊢
      split at h <;> first | exact h | exact absurd rfl i2 | exact absurd rfl i7
    · refine step_pure fun sg ly a wr hl hd hW hF => ?_
      have et1 := hF.old 1 (by kernel_rfl)
      simp [Act.eval] at et1
      exact ⟨hW.other 3 (by decide) (by decide) (by simp [upd]), .pointer (some ⟨ob, 2, none⟩), by go_simp, rfl⟩
    · refine step_pure fun sg ly a wr hl hd hW hF => ?_
      simp [Region.binds] at hd
      have et6 := hF.new 3 6 (by simp [hd]) rfl
      simp [CppV, Act.eval] at et6
      have n9 := hF.notYet 4 9 hl (by kernel_rfl)
      have hh := hW.hob
      have cL := (cell_of_heap hh 2).trans rfl
      try simp only [n9, if_false, Bool.false_eq_true] at cL
      have zL := heap_lt hh
      exact ⟨hW.other 4 (by decide) (by decide) (by simp [upd]), .slice As n2 cs, by go_simp, rfl⟩
    · refine step_call fun sg ly a wr hl hd hW hF => ?_
      simp [Region.binds] at hd
      have et7 := hF.new 4 7 (by simp [hd]) rfl
      simp [CppV, Act.eval] at et7
      have n9 := hF.notYet 5 9 hl (by kernel_rfl)
      refine ⟨90, #[.slice As n2 cs], by go_simp, ?_⟩
      refine (HC.out.2 wr hW.kp).mono ?_
      rintro e w2 ⟨A', c', q, rfl, h1, h2, h3⟩
      refine ⟨_, { sg with A2 := A', c2 := c', q2 := q }, rfl, hW.call2 (by decide) h1 h2 h3 (by simp [upd, n9]), rfl, ?_⟩
      intro i u hi h
      have i5 : i ≠ 5 := by rintro rfl; rw [hl] at hi; cases hi
      have i9 : i ≠ 9 := by rintro rfl; rw [n9] at hi; cases hi
      unfold CppV at h ⊢
      split at h <;> first | exact h | exact absurd rfl i5 | exact absurd rfl i9
    · refine step_pure fun sg ly a wr hl hd hW hF => ?_
      have et1 := hF.old 1 (by kernel_rfl)
      simp [Act.eval] at et1
      exact ⟨hW.other 6 (by decide) (by decide) (by simp [upd]), .pointer (some ⟨ob, 1, none⟩), by go_simp, rfl⟩
    · refine step_store rfl fun sg ly a wx hl hd hW hF => ?_
      simp [Region.binds] at hd
      have et9 := hF.new 6 9 (by simp [hd]) rfl
      simp [CppV, Act.eval] at et9
      have et5 := hF.new 2 5 (by simp [hd]) rfl
      simp [CppV, Act.eval] at et5
      have y2 : ly 2 = true := by simp [hd]
      have hh := hW.hob
      have cL1 := (cell_of_heap hh 1).trans rfl
      have fL1 := frozen_of_heap hh 1
      have zL := heap_lt hh
      exact ⟨(wx.setCell ⟨ob, 1, none⟩ (.slice sg.A1 n1 sg.c1)), sg, .skip, by go_simp, .inl rfl, hW.put 7 (by decide) (by decide) ((Keep.refl _ _).setCell (.inl (by simp)) _) ((heap_set (hh) 1 _).trans (by simp [upd, hl])), fun _ _ _ h => h⟩
    · refine step_pure fun sg ly a wr hl hd hW hF => ?_
      have et1 := hF.old 1 (by kernel_rfl)
      simp [Act.eval] at et1
      exact ⟨hW.other 8 (by decide) (by decide) (by simp [upd]), .pointer (some ⟨ob, 2, none⟩), by go_simp, rfl⟩
    · refine step_store rfl fun sg ly a wx hl hd hW hF => ?_
      simp [Region.binds] at hd
      have et10 := hF.new 8 10 (by simp [hd]) rfl
      simp [CppV, Act.eval] at et10
      have et8 := hF.new 5 8 (by simp [hd]) rfl
      simp [CppV, Act.eval] at et8
      have y5 : ly 5 = true := by simp [hd]
      have hh := hW.hob
      have cL2 := (cell_of_heap hh 2).trans rfl
      have fL2 := frozen_of_heap hh 2
      have zL := heap_lt hh
      exact ⟨(wx.setCell ⟨ob, 2, none⟩ (.slice sg.A2 n2 sg.c2)), sg, .skip, by go_simp, .inl rfl, hW.put 9 (by decide) (by decide) ((Keep.refl _ _).setCell (.inl (by simp)) _) ((heap_set (hh) 2 _).trans (by simp [upd, hl])), fun _ _ _ h => h⟩
  intro sg af w4 hWW hF
  obtain ⟨ff, hf, rfl⟩ := hF.lit
  obtain ⟨o1, o1'⟩ := hWW.a1 rfl
  obtain ⟨o2, o2'⟩ := hWW.a2 rfl
  have hob4 := hWW.hob
  have hdj := hWW.dj rfl rfl
  simp only [List.length_cons, List.length_nil, Nat.reduceAdd, Nat.reduceLT, decide_true, if_true] at hob4
  have kp := hWW.kp
  have hr4 := (kp.block _ zr (by simpa using hne)).trans HO.out.1
  have q0 := (cell_of_heap hob4 0).trans rfl
  have q1 := (cell_of_heap hob4 1).trans rfl
  have q2 := (cell_of_heap hob4 2).trans rfl
  have f0 := frozen_of_heap hr4 0
  have f1 := frozen_of_heap hr4 1
  have f2 := frozen_of_heap hr4 2
  have r0 := (cell_of_heap hr4 0).trans rfl
  have r1 := (cell_of_heap hr4 1).trans rfl
  have r2 := (cell_of_heap hr4 2).trans rfl
  have zo4 := heap_lt hob4
  have zr4 := heap_lt hr4
  have H4 := Lib.hid (And.intro o1 (And.intro o1' (And.intro o2 (And.intro o2' (And.intro hdj (And.intro kp hr4))))))
  clear hf hF hWW o1 o2 o1' o2' hob4 kp hr4 hdj
  simp only [List.filterMap, List.foldl, List.setIfInBounds_toArray, List.set_cons_succ, List.set_cons_zero]
  go_wp2_with fail
  obtain ⟨o1, o1', o2, o2', hdj, kp, hr4⟩ := H4.out
  have ew := heap_set (heap_set (heap_set hr4 0 (.int .i64 h)) 1 (.slice sg.A1 n1 sg.c1)) 2 (.slice sg.A2 n2 sg.c2)
  have y0 := (cell_of_heap ew 0).trans rfl
  have y1 := (cell_of_heap ew 1).trans rfl
  have y2 := (cell_of_heap ew 2).trans rfl
  obtain ⟨-, b0, hob, hrb, hn1, hn2, hh⟩ := HO.out
  have kr : Keep [rb] w4 (((w4.setCell ⟨rb, 0, none⟩ (.int .i64 h)).setCell ⟨rb, 1, none⟩ (.slice sg.A1 n1 sg.c1)).setCell ⟨rb, 2, none⟩ (.slice sg.A2 n2 sg.c2)) := (((Keep.refl _ _).setCell (.inl (by simp)) _).setCell (.inl (by simp)) _).setCell (.inl (by simp)) _
  refine bodyPost_ret (v := .agg (plnV sg.A1 sg.c1 sg.A2 sg.c2 l)) (by simp only [plnV]; rw [← hn1, ← hn2, ← hh]; simp [results, Try.results33, go_sem, y0, y1, y2]) rfl ?_
  refine ⟨sg.A1, sg.c1, sg.A2, sg.c2, newQ w (((w4.setCell ⟨rb, 0, none⟩ (.int .i64 h)).setCell ⟨rb, 1, none⟩ (.slice sg.A1 n1 sg.c1)).setCell ⟨rb, 2, none⟩ (.slice sg.A2 n2 sg.c2)), by first | rfl | (simp only [plnV]; rw [← hn1, ← hn2, ← hh]), plnH_new (e1 := 55) (e2 := 126) (q1 := sg.q1) (q2 := sg.q2) ?_ ?_ ?_ ?_, fun x hx => (mem_newQ.1 hx).1, ?_⟩
  · rw [← hn1]; exact o1.keepS kr (fun g hg => by have := o1' g hg; simp; omega)
  · rw [← hn2]; exact o2.keepS kr (fun g hg => by have := o2' g hg; simp; omega)
  · intro x hx; have := o1' x hx; have := b0.size; omega
  · intro x hx; have := o2' x hx; have := b0.size; omega
  · exact (b0.trans (kp.below b0.size (by simp; omega))).trans (kr.below (by have := b0.size; have := kp.size; omega) (by simp; omega))
end Go.Proofs.Ythmldeningpjbaa
/- A list in a struct's field grows by one element: what a walk owns. No program's function is named here. -/
namespace Go.Proofs.Ythmldeningpjbaa
open Go Go.RowKit Sp Pt
set_option linter.unusedVariables false

section
variable {D : Nat} {W0 wr w5 : World} {L : List It}
theorem Own.app3 (h : Own D W0 L wr) (kb ko : Nat) {ob : Nat} {old : Array Value} {t e : TypeId} {sz : Nat} {A : Option Addr} {n c : Nat} {xs : List Value} {q : List Nat}
    (hb : L[kb]? = some (.blk ob (.cells old t (0, 0)))) (ho : L[ko]? = some (.own e sz A n c xs q)) (hne : kb ≠ ko) {wx : World} (hx : Below wr.heap.size wr wx) {g n' c' : Nat} {xs' : List Value}
    (h1 : OwnS w5 e sz (some ⟨g, 0, none⟩) n' c' xs' [g]) (h2 : g ∈ q ∨ wx.heap.size = g) (h4 : Keep q wx w5) (j : Nat) (v : Value) :
    w5.heap[ob]? = some (.cells old t (0, 0)) ∧ Own D W0 ((L.set ko (.own e sz (some ⟨g, 0, none⟩) n' c' xs' [g])).set kb (.blk ob (.cells (old.setIfInBounds j v) t (0, 0)))) (w5.setCell ⟨ob, j, none⟩ v) := by
  have o1 := (h.below hx).upd ko ho h4 (i' := .own e sz (some ⟨g, 0, none⟩) n' c' xs' [g]) h1 (fun x hx => by
    rw [List.mem_singleton.1 hx]
    rcases h2 with e | e
    · exact .inl e
    · exact .inr (by omega))
  have hb' : (L.set ko (.own e sz (some ⟨g, 0, none⟩) n' c' xs' [g]))[kb]? = some (.blk ob (.cells old t (0, 0))) := by
    rw [List.getElem?_set, if_neg (fun q => hne q.symm)]; exact hb
  have hh := o1.heap kb hb'
  exact ⟨hh, o1.set kb hb' ((Keep.refl _ _).setCell (.inl (by simp)) _) (heap_set hh j v)⟩
theorem cacs_snoc {l : List Cal} {k : Nat} (hk : k < l.length) : cacs (l.take k) ++ cac l[k] = cacs (l.take (k + 1)) := by
  rw [List.take_succ_eq_append_getElem hk]; exact (flat_snoc cac _ _).symm
theorem swcs_snoc {l : List Swp} {k : Nat} (hk : k < l.length) : swcs (l.take k) ++ swc l[k] = swcs (l.take (k + 1)) := by
  rw [List.take_succ_eq_append_getElem hk]; exact (flat_snoc swc _ _).symm
theorem chcs_snoc {l : List Chn} {k : Nat} (hk : k < l.length) : chcs (l.take k) ++ chc l[k] = chcs (l.take (k + 1)) := by
  rw [List.take_succ_eq_append_getElem hk]; exact (flat_snoc chc _ _).symm
end
end Go.Proofs.Ythmldeningpjbaa
/- One element put behind the others of a list that lies in a struct; one of its cells is a list of numbers that a call copies; in a region that draws its order. No program's function is named here. -/
namespace Go.Proofs.Ythmldeningpjbaa
open Go Go.RowKit Sp Pt
set_option linter.unusedVariables false

structure ApcC where
  ob : Nat
  e : TypeId
  sz : Nat
  k : Nat
  A : Option Addr
  c : Nat
  xs : List Value
  q : List Nat
  path : List Int
  ti : TypeId
  ys : Option Addr → Nat → List Value
  old : Array Value
  new : Option Addr → Nat → Array Value
  t : TypeId
structure ApcS where
  A1 : Option Addr
  c1 : Nat
  q1 : List Nat
  bs : Nat
  A : Option Addr
  c : Nat
  g : Nat
structure ApcOk (C : ApcC) (W0 : World) : Prop where
  own : OwnS W0 C.e C.sz C.A C.k C.c C.xs C.q
  hob : W0.heap[C.ob]? = some (.cells C.old C.t (0, 0))
  obq : C.ob ∉ C.q
structure ApcW (C : ApcC) (oC oB oA oS : Nat) (W0 : World) (s : ApcS) (l : Nat → Bool) (w : World) : Prop where
  kp : Keep (C.ob :: C.q) W0 w
  pth : l oC = true → OwnA w C.ti s.A1 C.path.length s.c1 (ints C.path) s.q1 ∧ ∀ x ∈ s.q1, W0.heap.size ≤ x
  own0 : l oA = false → OwnS w C.e C.sz C.A C.k C.c C.xs C.q
  own1 : l oA = true → OwnS w C.e C.sz s.A (C.k + 1) s.c (C.xs ++ C.ys s.A1 s.c1) [s.g] ∧ (s.g ∈ C.q ∨ W0.heap.size ≤ s.g) ∧ (l oC = true → s.g ∉ s.q1)
  hob : w.heap[C.ob]? = some (.cells (if l oS then C.new s.A s.c else C.old) C.t (0, 0))
  hbs : l oB = true → W0.heap.size ≤ s.bs ∧ w.heap[s.bs]? = some (.cells (C.ys s.A1 s.c1).toArray C.e (0, 0))
section
variable {C : ApcC} {oC oB oA oS : Nat} {W0 w w' : World} {s : ApcS} {l : Nat → Bool}
theorem ApcOk.start (O : ApcOk C W0) : ApcW C oC oB oA oS W0 s (fun _ => false) W0.drew :=
  ⟨(Keep.refl _ _).drew, (fun h => by cases h), fun _ => O.own, (fun h => by cases h), by rw [if_neg (by simp)]; exact O.hob, (fun h => by cases h)⟩
theorem ApcW.other (H : ApcW C oC oB oA oS W0 s l w) (i : Nat) (h0 : i ≠ oC) (h1 : i ≠ oB) (h2 : i ≠ oA) (h3 : i ≠ oS) : ApcW C oC oB oA oS W0 s (upd l i) w := by
  refine ⟨H.kp, ?_, ?_, ?_, ?_, ?_⟩
  · rw [upd_ne h0]; exact H.pth
  · rw [upd_ne h2]; exact H.own0
  · rw [upd_ne h2, upd_ne h0]; exact H.own1
  · rw [upd_ne h3]; exact H.hob
  · rw [upd_ne h1]; exact H.hbs
theorem ApcW.call (H : ApcW C oC oB oA oS W0 s l w) (O : ApcOk C W0) (hn : oC ≠ oB ∧ oC ≠ oA ∧ oC ≠ oS) (hB : l oB = false) (hA : l oA = false) {A : Option Addr} {c : Nat} {q : List Nat} (h1 : OwnA w' C.ti A C.path.length c (ints C.path) q) (h2 : ∀ g ∈ q, w.heap.size ≤ g) (h3 : Below w.heap.size w w') :
    ApcW C oC oB oA oS W0 { s with A1 := A, c1 := c, q1 := q } (upd l oC) w' := by
  have hk : Keep [] w w' := Keep.of_below h3
  refine ⟨H.kp.trans hk (by simp), fun _ => ⟨h1, fun g hg => Nat.le_trans H.kp.size (h2 g hg)⟩, ?_, ?_, ?_, ?_⟩
  · rw [upd_ne hn.2.1]; exact fun e => (H.own0 e).keepS hk (by simp)
  · rw [upd_ne hn.2.1, hA]; exact fun e => by cases e
  · rw [upd_ne hn.2.2]; exact (hk.block _ (heap_lt H.hob) (by simp)).trans H.hob
  · rw [upd_ne hn.1, hB]; exact fun e => by cases e
theorem ApcW.build (H : ApcW C oC oB oA oS W0 s l w) (hn : oC ≠ oB ∧ oB ≠ oA ∧ oB ≠ oS) (hA : l oA = false) : ApcW C oC oB oA oS W0 { s with bs := w.heap.size } (upd l oB) (w.alloc (.cells (C.ys s.A1 s.c1).toArray C.e)) := by
  refine ⟨H.kp.alloc _, ?_, ?_, ?_, ?_, fun _ => ⟨H.kp.size, heap_alloc_new _ _⟩⟩
  · rw [upd_ne hn.1.symm]; exact fun e => ⟨(H.pth e).1.alloc _, (H.pth e).2⟩
  · rw [upd_ne hn.2.1]; exact fun e => (H.own0 e).alloc _
  · rw [upd_ne hn.2.1, hA]; exact fun e => by cases e
  · rw [upd_ne hn.2.2]; exact heap_alloc' H.hob _
theorem ApcW.app (H : ApcW C oC oB oA oS W0 s l w) (O : ApcOk C W0) (hn : oC ≠ oA ∧ oB ≠ oA ∧ oA ≠ oS) (h8 : l oB = true) (h9 : l oA = false) (h11 : l oS = false) {g c' : Nat} (o1 : OwnS w' C.e C.sz (some ⟨g, 0, none⟩) (C.k + 1) c' (C.xs ++ C.ys s.A1 s.c1) [g]) (o2 : g ∈ C.q ∨ w.heap.size = g) (o3 : Keep C.q w w') :
    ApcW C oC oB oA oS W0 { s with A := some ⟨g, 0, none⟩, c := c', g := g } (upd l oA) w' := by
  have hh := H.hob
  rw [h11, if_neg (by simp)] at hh
  have hq : ∀ x ∈ C.q, x < W0.heap.size := fun x hx => O.own.lt x hx
  refine ⟨H.kp.trans o3 (fun x hx => .inl (by simp [hx])), ?_, ?_, ?_, ?_, ?_⟩
  · rw [upd_ne hn.1.symm]
    exact fun e => ⟨(H.pth e).1.keepS o3 (fun x hx hm => by have := (H.pth e).2 x hx; have := hq x hm; omega), (H.pth e).2⟩
  · rw [upd_eq]; exact fun e => by cases e
  · rw [upd_ne hn.1.symm]
    refine fun _ => ⟨o1, ?_, fun e hm => ?_⟩
    · rcases o2 with e | e
      · exact .inl e
      · exact .inr (by have := H.kp.size; simp only; omega)
    · have h1 := (H.pth e).2 g hm
      have h2 := (H.pth e).1.lt g hm
      rcases o2 with e | e
      · have := hq g e; omega
      · omega
  · rw [upd_ne hn.2.2, h11, if_neg (by simp)]; exact (o3.block _ (heap_lt hh) O.obq).trans hh
  · rw [upd_ne hn.2.1.symm]
    exact fun e => ⟨(H.hbs e).1, (o3.block _ (heap_lt (H.hbs e).2) (fun hm => by have := (H.hbs e).1; have := hq _ hm; omega)).trans (H.hbs e).2⟩
theorem ApcW.store (H : ApcW C oC oB oA oS W0 s l w) (O : ApcOk C W0) (hn : oC ≠ oS ∧ oB ≠ oS ∧ oA ≠ oS) (j : Nat) (hnew : ∀ A c, C.new A c = C.old.setIfInBounds j (.slice A (C.k + 1) c)) (h9 : l oA = true) (h11 : l oS = false) :
    ApcW C oC oB oA oS W0 s (upd l oS) (w.setCell ⟨C.ob, j, none⟩ (.slice s.A (C.k + 1) s.c)) := by
  have hh := H.hob
  rw [h11, if_neg (by simp)] at hh
  have zo := heap_lt O.hob
  have K : Keep [C.ob] w (w.setCell ⟨C.ob, j, none⟩ (.slice s.A (C.k + 1) s.c)) := (Keep.refl _ _).setCell (.inl (by simp)) _
  refine ⟨H.kp.setCell (.inl (by simp)) _, ?_, ?_, ?_, ?_, ?_⟩
  · rw [upd_ne hn.1.symm]; exact fun e => ⟨(H.pth e).1.keepS K (fun x hx => by have := (H.pth e).2 x hx; simp; omega), (H.pth e).2⟩
  · rw [upd_ne hn.2.2.symm, h9]; exact fun e => by cases e
  · rw [upd_ne hn.2.2.symm, upd_ne hn.1.symm]
    refine fun e => ⟨(H.own1 e).1.keepS K (fun g hg => ?_), (H.own1 e).2⟩
    rw [List.mem_singleton.1 hg]
    simp only [List.mem_singleton]
    rintro e2
    rcases (H.own1 e).2.1 with e3 | e3
    · exact O.obq (e2 ▸ e3)
    · omega
  · rw [upd_eq, if_pos rfl, hnew]; exact heap_set hh j _
  · rw [upd_ne hn.2.1.symm]
    exact fun e => ⟨(H.hbs e).1, (K.block _ (heap_lt (H.hbs e).2) (by have := (H.hbs e).1; simp; omega)).trans (H.hbs e).2⟩
/-- the append itself -/
theorem ApcW.at_append {P : Program} {o : Oper} {a : Act} {K : Act → World → Prop} {Q : Exit → Act → World → Prop} (H : ApcW C oC oB oA oS W0 s l w) (O : ApcOk C W0) (x y : Operand) (t : TypeId)
    (ho : o.op = .call { callee := .builtin .append, args := #[x, y], argTypes := #[t, t] })
    (i : TypeInfo) (z : Value) (bytes : Nat) (ht : P.underlying t = some (.slice C.e)) (hi : P.info? C.e = some i) (hz : i.zero = some z)
    (hsize : i.size = C.sz) (hs0 : 0 < C.sz) (hby : i.bytes = bytes) (hzs : z.cells.size = C.sz) (hs : a.eval x = .slice C.A C.k C.c) (hx : a.eval y = .slice (some ⟨s.bs, 0, none⟩) 1 1)
    (hys : (C.ys s.A1 s.c1).length = C.sz) (h1 : ∀ u ∈ C.ys s.A1 s.c1, u.oneCell' = true) (hk : C.k + 1 ≤ 1000000000000) (hbytes : bytes ≤ 100) (hn : oC ≠ oA ∧ oB ≠ oA ∧ oA ≠ oS) (h8 : l oB = true) (h9 : l oA = false) (h11 : l oS = false)
    (h : ∀ g c' w', ApcW C oC oB oA oS W0 { s with A := some ⟨g, 0, none⟩, c := c', g := g } (upd l oA) w' → K (a.put o.dst (.slice (some ⟨g, 0, none⟩) (C.k + 1) c')) w') : o.wp P a w K Q := by
  have hbs := H.hbs h8
  refine wp_append_S x y t ho i z bytes ht hi hz hsize hs0 hby hzs hs ⟨s.bs, 0, none⟩ hx (C.ys s.A1 s.c1) (H.own0 h9) hys (fun j v hj => by rw [show (⟨s.bs, 0, none⟩ : Addr).add j = ⟨s.bs, j, none⟩ from by simp [Addr.add]; omega]; exact (cell_of_heap hbs.2 j).trans (by simpa using hj)) h1 hk hbytes ?_
  intro g c' w' o1 o2 o3 o4
  exact h g c' w' (H.app O hn h8 h9 h11 o1 o2 o4)
end
end Go.Proofs.Ythmldeningpjbaa
