/- polynyalaw03.Some: an ice that a cell holds; RestrictCharts: rates (printed by wip/tools/fzc.py) -/
import Derived.Test.YtfmhlnfcbbpfeaaRCp18
set_option linter.unusedVariables false
namespace Go.Proofs.Ytfmhlnfcbbpfeaa
open Go Go.RowKit Go.Lib Sp
set_option linter.unusedVariables false
set_option linter.unusedSimpArgs false

/-- an ice that is drawn number by number, and stored at the end -/
structure DrW (D : Nat) (W0 : World) (ib lb nb ob : Nat) (B : Nat → Int × Int) (c0 c1 c2 c3 st : Nat) (s : Ice) (l : Nat → Bool) (w : World) : Prop where
  fz : FzW D W0 ib lb nb [ob] w
  r0 : l c0 = true → (B 0).1 ≤ s.con ∧ s.con ≤ (B 0).2
  r1 : l c1 = true → (B 1).1 ≤ s.thk ∧ s.thk ≤ (B 1).2
  r2 : l c2 = true → (B 2).1 ≤ s.rid ∧ s.rid ≤ (B 2).2
  r3 : l c3 = true → (B 3).1 ≤ s.prs ∧ s.prs ≤ (B 3).2
  ob : w.heap[ob]? = some (.cells (if l st then ic4 s else #[.int .i64 0, .int .i64 0, .int .i64 0, .int .i64 0]) 111 (0, 0))
section
variable {D : Nat} {W0 : World} {ib lb nb ob : Nat} {B : Nat → Int × Int} {c0 c1 c2 c3 st : Nat} {s : Ice} {l : Nat → Bool} {w w' : World}
theorem DrW.other (h : DrW D W0 ib lb nb ob B c0 c1 c2 c3 st s l w) (i : Nat) (hi : i ≠ c0 ∧ i ≠ c1 ∧ i ≠ c2 ∧ i ≠ c3 ∧ i ≠ st) : DrW D W0 ib lb nb ob B c0 c1 c2 c3 st s (upd l i) w := by
  obtain ⟨a1, a2, a3, a4, a5⟩ := hi
  refine ⟨h.fz, ?_, ?_, ?_, ?_, ?_⟩
  · rw [upd_n (Ne.symm a1)]; exact h.r0
  · rw [upd_n (Ne.symm a2)]; exact h.r1
  · rw [upd_n (Ne.symm a3)]; exact h.r2
  · rw [upd_n (Ne.symm a4)]; exact h.r3
  · rw [upd_n (Ne.symm a5)]; exact h.ob
theorem DrW.store (h : DrW D W0 ib lb nb ob B c0 c1 c2 c3 st s l w) (hl : l st = false) (hb : (ob ≠ ib ∧ ob ≠ lb ∧ ob ≠ nb ∧ D ≤ ob) ∧ nb ≠ ib) (hc : c0 ≠ st ∧ c1 ≠ st ∧ c2 ≠ st ∧ c3 ≠ st := by decide) : DrW D W0 ib lb nb ob B c0 c1 c2 c3 st s (upd l st) ((((w.setCell ⟨ob, 0, none⟩ (.int .i64 s.con)).setCell ⟨ob, 1, none⟩ (.int .i64 s.thk)).setCell ⟨ob, 2, none⟩ (.int .i64 s.rid)).setCell ⟨ob, 3, none⟩ (.int .i64 s.prs)) := by
  have hq := h.ob
  rw [hl] at hq
  refine ⟨h.fz.keep (keep4 w ob _ _ _ _) (fun y hy => ?_), ?_, ?_, ?_, ?_, ?_⟩
  · rw [List.mem_singleton.1 hy]; exact ⟨.inl (by simp), hb.1.2.2.2, hb.1.1, hb.1.2.1, hb.1.2.2.1⟩
  · rw [upd_n hc.1]; exact h.r0
  · rw [upd_n hc.2.1]; exact h.r1
  · rw [upd_n hc.2.2.1]; exact h.r2
  · rw [upd_n hc.2.2.2]; exact h.r3
  · rw [show upd l st st = true from if_pos rfl]
    exact heap_set (heap_set (heap_set (heap_set hq 0 (.int .i64 s.con)) 1 (.int .i64 s.thk)) 2 (.int .i64 s.rid)) 3 (.int .i64 s.prs)
theorem DrW.call0 (h : DrW D W0 ib lb nb ob B c0 c1 c2 c3 st s l w) (hst : l st = false) {r : Int} (hr : (B 0).1 ≤ r ∧ r ≤ (B 0).2) (hn : NxS D w' ib lb) (hk : Keep [ib] w w') (hb : (ob ≠ ib ∧ ob ≠ lb ∧ ob ≠ nb ∧ D ≤ ob) ∧ nb ≠ ib) (hc : c1 ≠ c0 ∧ c2 ≠ c0 ∧ c3 ≠ c0 ∧ st ≠ c0 := by decide) : DrW D W0 ib lb nb ob B c0 c1 c2 c3 st { s with con := r } (upd l c0) w' := by
  have hq := h.ob
  rw [hst] at hq
  refine ⟨h.fz.call hn hk hb.2, ?_, ?_, ?_, ?_, ?_⟩
  · exact fun _ => hr
  · rw [upd_n hc.1]; exact h.r1
  · rw [upd_n hc.2.1]; exact h.r2
  · rw [upd_n hc.2.2.1]; exact h.r3
  · rw [upd_n hc.2.2.2, hst]; exact (hk.block _ (heap_lt hq) (by simpa using hb.1.1)).trans hq
theorem DrW.call1 (h : DrW D W0 ib lb nb ob B c0 c1 c2 c3 st s l w) (hst : l st = false) {r : Int} (hr : (B 1).1 ≤ r ∧ r ≤ (B 1).2) (hn : NxS D w' ib lb) (hk : Keep [ib] w w') (hb : (ob ≠ ib ∧ ob ≠ lb ∧ ob ≠ nb ∧ D ≤ ob) ∧ nb ≠ ib) (hc : c0 ≠ c1 ∧ c2 ≠ c1 ∧ c3 ≠ c1 ∧ st ≠ c1 := by decide) : DrW D W0 ib lb nb ob B c0 c1 c2 c3 st { s with thk := r } (upd l c1) w' := by
  have hq := h.ob
  rw [hst] at hq
  refine ⟨h.fz.call hn hk hb.2, ?_, ?_, ?_, ?_, ?_⟩
  · rw [upd_n hc.1]; exact h.r0
  · exact fun _ => hr
  · rw [upd_n hc.2.1]; exact h.r2
  · rw [upd_n hc.2.2.1]; exact h.r3
  · rw [upd_n hc.2.2.2, hst]; exact (hk.block _ (heap_lt hq) (by simpa using hb.1.1)).trans hq
theorem DrW.call2 (h : DrW D W0 ib lb nb ob B c0 c1 c2 c3 st s l w) (hst : l st = false) {r : Int} (hr : (B 2).1 ≤ r ∧ r ≤ (B 2).2) (hn : NxS D w' ib lb) (hk : Keep [ib] w w') (hb : (ob ≠ ib ∧ ob ≠ lb ∧ ob ≠ nb ∧ D ≤ ob) ∧ nb ≠ ib) (hc : c0 ≠ c2 ∧ c1 ≠ c2 ∧ c3 ≠ c2 ∧ st ≠ c2 := by decide) : DrW D W0 ib lb nb ob B c0 c1 c2 c3 st { s with rid := r } (upd l c2) w' := by
  have hq := h.ob
  rw [hst] at hq
  refine ⟨h.fz.call hn hk hb.2, ?_, ?_, ?_, ?_, ?_⟩
  · rw [upd_n hc.1]; exact h.r0
  · rw [upd_n hc.2.1]; exact h.r1
  · exact fun _ => hr
  · rw [upd_n hc.2.2.1]; exact h.r3
  · rw [upd_n hc.2.2.2, hst]; exact (hk.block _ (heap_lt hq) (by simpa using hb.1.1)).trans hq
theorem DrW.call3 (h : DrW D W0 ib lb nb ob B c0 c1 c2 c3 st s l w) (hst : l st = false) {r : Int} (hr : (B 3).1 ≤ r ∧ r ≤ (B 3).2) (hn : NxS D w' ib lb) (hk : Keep [ib] w w') (hb : (ob ≠ ib ∧ ob ≠ lb ∧ ob ≠ nb ∧ D ≤ ob) ∧ nb ≠ ib) (hc : c0 ≠ c3 ∧ c1 ≠ c3 ∧ c2 ≠ c3 ∧ st ≠ c3 := by decide) : DrW D W0 ib lb nb ob B c0 c1 c2 c3 st { s with prs := r } (upd l c3) w' := by
  have hq := h.ob
  rw [hst] at hq
  refine ⟨h.fz.call hn hk hb.2, ?_, ?_, ?_, ?_, ?_⟩
  · rw [upd_n hc.1]; exact h.r0
  · rw [upd_n hc.2.1]; exact h.r1
  · rw [upd_n hc.2.2.1]; exact h.r2
  · exact fun _ => hr
  · rw [upd_n hc.2.2.2, hst]; exact (hk.block _ (heap_lt hq) (by simpa using hb.1.1)).trans hq
end

set_option linter.unusedVariables false
def SmV (D : Nat) (W0 : World) (ib lb nb ob xb : Nat) (x : Cel) (s : Ice) : Nat → Value → Prop
  | 0, v => v = .func (.func 118) #[] #[.pointer (some ⟨nb, 0, none⟩)]
  | 1, v => v = .pointer (some ⟨xb, 0, none⟩)
  | 2, v => v = .agg #[.int .i64 x.a0, .int .i64 x.a1]
  | 3, v => v = .int .i64 s.con
  | 4, v => v = .func (.func 118) #[] #[.pointer (some ⟨nb, 0, none⟩)]
  | 5, v => v = .pointer (some ⟨xb, 2, none⟩)
  | 6, v => v = .agg #[.int .i64 x.b0, .int .i64 x.b1]
  | 7, v => v = .int .i64 s.thk
  | 8, v => v = .func (.func 118) #[] #[.pointer (some ⟨nb, 0, none⟩)]
  | 9, v => v = .pointer (some ⟨xb, 4, none⟩)
  | 10, v => v = .agg #[.int .i64 x.c0, .int .i64 x.c1]
  | 11, v => v = .int .i64 s.rid
  | 12, v => v = .func (.func 118) #[] #[.pointer (some ⟨nb, 0, none⟩)]
  | 13, v => v = .pointer (some ⟨xb, 6, none⟩)
  | 14, v => v = .agg #[.int .i64 x.d0, .int .i64 x.d1]
  | 15, v => v = .int .i64 s.prs
  | 16, v => v = .agg (ic4 s)
  | _, _ => True
def SmW (D : Nat) (W0 : World) (ib lb nb ob xb : Nat) (x : Cel) (s : Ice) (l : Nat → Bool) (w : World) : Prop := DrW D W0 ib lb nb ob (fun k => (celLoN x k, celHiN x k)) 3 7 11 15 17 s l w
theorem ice_results {F : Func} {r : Nat} (hF : F.results = #[.cell r 111]) {W : World} {b : Nat} {x0 x1 x2 x3 : Int} (h : W.heap[b]? = some (.cells #[.int .i64 x0, .int .i64 x1, .int .i64 x2, .int .i64 x3] 111 (0, 0))) (tmps : Array Value) (hr : tmps.getD r undef = .pointer (some ⟨b, 0, none⟩)) :
    (results F tmps).run Try.prog W = .ok (.agg #[.int .i64 x0, .int .i64 x1, .int .i64 x2, .int .i64 x3]) W := by
  have g4 : tmps[r]?.getD undef = .pointer (some ⟨b, 0, none⟩) := by simpa using hr
  have c0 : W.cell? ⟨b, 0, none⟩ = some (.int .i64 x0) := (cell_of_heap h 0).trans rfl
  have c1 : W.cell? ⟨b, 1, none⟩ = some (.int .i64 x1) := (cell_of_heap h 1).trans rfl
  have c2 : W.cell? ⟨b, 2, none⟩ = some (.int .i64 x2) := (cell_of_heap h 2).trans rfl
  have c3 : W.cell? ⟨b, 3, none⟩ = some (.int .i64 x3) := (cell_of_heap h 3).trans rfl
  simp [results, hF, g4, asAddr, go_sem, c0, c1, c2, c3]
def InPost (x : Cel) (w : World) (e : Ending) (w' : World) : Prop := ∃ i : Ice, e = .returned (.agg (ic4 i)) ∧ iceOk i = true ∧ hasB x i = true ∧ Below w.heap.size w w'
theorem cel_bds {x : Cel} (h : celOk x = true) : (0 ≤ x.a0 ∧ x.a0 ≤ x.a1 ∧ x.a1 ≤ 100) ∧ (0 ≤ x.b0 ∧ x.b0 ≤ x.b1 ∧ x.b1 ≤ 400) ∧ (0 ≤ x.c0 ∧ x.c0 ≤ x.c1 ∧ x.c1 ≤ 100) ∧ (0 ≤ x.d0 ∧ x.d0 ≤ x.d1 ∧ x.d1 ≤ 3) := by
  simp only [celOk, spanOk, within, Bool.and_eq_true, decide_eq_true_eq] at h
  omega
theorem in_ok {x : Cel} {s : Ice} (h : celOk x = true) (h0 : x.a0 ≤ s.con ∧ s.con ≤ x.a1) (h1 : x.b0 ≤ s.thk ∧ s.thk ≤ x.b1) (h2 : x.c0 ≤ s.rid ∧ s.rid ≤ x.c1) (h3 : x.d0 ≤ s.prs ∧ s.prs ≤ x.d1) : iceOk s = true ∧ hasB x s = true := by
  have hb := cel_bds h
  constructor
  · simp only [iceOk, within, Bool.and_eq_true, decide_eq_true_eq]; omega
  · simp only [hasB, hasN, within, iceN, celLoN, celHiN, Bool.and_eq_true, decide_eq_true_eq]; omega
set_option maxRecDepth 100000 in
set_option maxHeartbeats 4000000 in
theorem Some_any (x : Cel) (hx : celOk x = true) (A : Option Addr) (c : Nat) (l : List Int) (w : World) (hr : Rd w 1 A l.length (byts l)) (hb : Bytes l) (hl : l.length ≤ 9223372036854775806) :
    Calls Try.prog 71 #[.agg (celA x), .slice A l.length c] w (InPost x w) := by
  obtain ⟨W, hW⟩ : ∃ W, W = (w.alloc (.cells (celA x) 123)).alloc (.cells #[.int .i64 0, .int .i64 0, .int .i64 0, .int .i64 0] 111) := ⟨_, rfl⟩
  obtain ⟨xb, hxb⟩ : ∃ b, b = w.heap.size := ⟨_, rfl⟩
  obtain ⟨ob, hob⟩ : ∃ b, b = w.heap.size + 1 := ⟨_, rfl⟩
  have hxh : W.heap[xb]? = some (.cells (celA x) 123 (0, 0)) := by rw [hW, hxb]; exact heap_alloc' (heap_alloc_new _ _) _
  have hoh : W.heap[ob]? = some (.cells #[.int .i64 0, .int .i64 0, .int .i64 0, .int .i64 0] 111 (0, 0)) := by
    rw [hW, hob]
    have := heap_alloc_new (w.alloc (.cells (celA x) 123)) (.cells #[.int .i64 0, .int .i64 0, .int .i64 0, .int .i64 0] 111)
    rwa [World.size_alloc] at this
  have bW : Below w.heap.size w W := by rw [hW]; exact ((Below.refl _ _).alloc (Nat.le_refl _) _).alloc (by simp) _
  have kd := Drawn_some w.heap.size A c l W (hr.below bW) hb hl bW.size (fun h0 b off e => hr.lt' h0 e)
  have HR := Lib.hid (And.intro hxh (And.intro hoh (And.intro bW (And.intro kd (show w.heap.size ≤ xb ∧ w.heap.size ≤ ob ∧ xb ≠ ob by omega)))))
  have HB := Lib.hid (show (0 ≤ x.a0 ∧ x.a0 ≤ x.a1 ∧ x.a1 ≤ 1000) ∧ (0 ≤ x.b0 ∧ x.b0 ≤ x.b1 ∧ x.b1 ≤ 1000) ∧ (0 ≤ x.c0 ∧ x.c0 ≤ x.c1 ∧ x.c1 ≤ 1000) ∧ (0 ≤ x.d0 ∧ x.d0 ≤ x.d1 ∧ x.d1 ≤ 1000) from by have := cel_bds hx; omega)
  have HO := Lib.hid hx
  clear hxh hoh bW kd hr hb hx
  go_enter Try.func71, Try.ntmps71
  go_upto_region 1 with fail
  rw [← hW, ← hob, ← hxb]
  clear hW hxb hob
  go_upto_region 2 with (go_at_call 67; refine HR.out.2.2.2.1.mono ?_; rintro e w1 ⟨ib, lb, rfl, hn, h1, h2, b1⟩)
  obtain ⟨w2, hw2⟩ : ∃ w2, w2 = w1.alloc (.cells #[.func (.func 114) #[] #[.pointer (some ⟨ib, 0, none⟩), .pointer (some ⟨lb, 0, none⟩)]] 128) := ⟨_, rfl⟩
  obtain ⟨nb, hnb⟩ : ∃ nb, nb = w1.heap.size := ⟨_, rfl⟩
  have hlt := hn.lt
  have b2 : Below w1.heap.size w1 w2 := by rw [hw2]; exact (Below.refl _ _).alloc (Nat.le_refl _) _
  have hf : w2.cell? ⟨nb, 0, none⟩ = some (.func (.func 114) #[] #[.pointer (some ⟨ib, 0, none⟩), .pointer (some ⟨lb, 0, none⟩)]) := by rw [hw2, hnb]; exact cell_new_one _ _ _
  have hn2 := hn.below b2
  have b02 : Below W.heap.size W w2 := b1.trans (b2.mono b1.size)
  have zx := heap_lt HR.out.1
  have zo := heap_lt HR.out.2.1
  have hz := b1.size
  have HN := Lib.hid (show (ob ≠ ib ∧ ob ≠ lb ∧ ob ≠ nb ∧ w.heap.size ≤ ob) ∧ nb ≠ ib from by have := HR.out.2.2.2.2; omega)
  have HX := Lib.hid (And.intro (show ∀ (j : Nat) v, (celA x)[j]? = some v → w2.cell? ⟨xb, j, none⟩ = some v from fun j v hv => (b02.cell (p := ⟨xb, j, none⟩) zx).trans ((cell_of_heap HR.out.1 j).trans hv)) (And.intro (show xb ∉ ib :: [ob] from fun hm => by have := HR.out.2.2.2.2; simp at hm; omega) (show w2.heap[ob]? = some (.cells #[.int .i64 0, .int .i64 0, .int .i64 0, .int .i64 0] 111 (0, 0)) from (b02.block _ zo).trans HR.out.2.1)))
  have H2 := Lib.hid (And.intro hn2 (And.intro hf (And.intro (HR.out.2.2.1.trans (b02.mono HR.out.2.2.1.size)) (show w.heap.size ≤ ib ∧ w.heap.size ≤ ob from by have := HR.out.2.2.2.2; omega))))
  rw [← hw2, ← hnb]
  clear hw2 hnb hlt b2 hf hn2 b02 zx zo hz hn h1 h2 b1
  go_upto_region 3 with fail
  refine wp_region_steps (σ := Ice) (by kernel_rfl) (by kernel_rfl) (fun sg jx vx _ => SmV w.heap.size w2 ib lb nb ob xb x sg jx vx) (fun sg ly wx => SmW w.heap.size w2 ib lb nb ob xb x sg ly wx) ⟨0, 0, 0, 0⟩ ?_ ?_ ?_
  · exact ⟨FzW.start H2.out.1 H2.out.2.1, (fun h => by cases h), (fun h => by cases h), (fun h => by cases h), (fun h => by cases h), by rw [if_neg (by simp)]; exact HX.out.2.2⟩
  · simp only [AllFrom, Nat.zero_add, Nat.reduceAdd]
    refine ⟨?_, ?_, ?_, ?_, ?_, ?_, ?_, ?_, ?_, ?_, ?_, ?_, ?_, ?_, ?_, ?_, ?_, ?_, trivial⟩
    · refine step_pure fun sg ly a wr hl hd hW hF => ?_
      have et6 := hF.old 6 (by kernel_rfl)
      simp [Act.eval] at et6
      exact ⟨hW.other _ (by decide), .func (.func 118) #[] #[.pointer (some ⟨nb, 0, none⟩)], by go_simp, rfl⟩
    · refine step_pure fun sg ly a wr hl hd hW hF => ?_
      have et2 := hF.old 2 (by kernel_rfl)
      simp [Act.eval] at et2
      exact ⟨hW.other _ (by decide), .pointer (some ⟨xb, 0, none⟩), by go_simp, rfl⟩
    · refine step_pure fun sg ly a wr hl hd hW hF => ?_
      simp [Region.binds] at hd
      have et11 := hF.new 1 11 (by simp [hd]) rfl
      simp [SmV, Act.eval] at et11
      have c0 := hW.fz.kp.cell (HX.out.1 0 _ rfl) HX.out.2.1
      have c1 := hW.fz.kp.cell (HX.out.1 1 _ rfl) HX.out.2.1
      exact ⟨hW.other _ (by decide), _, by go_simp, rfl⟩
    · refine step_call fun sg ly a wr hl hd hW hF => ?_
      simp [Region.binds] at hd
      have et10 := hF.new 0 10 (by simp [hd]) rfl
      simp [SmV, Act.eval] at et10
      have et12 := hF.new 2 12 (by simp [hd]) rfl
      simp [SmV, Act.eval] at et12
      have n16 := hF.notYet 3 16 hl (by kernel_rfl)
      have n17_16 := hF.notYet 3 16 hl (by kernel_rfl)
      have n17 := hF.notYet 16 17 n17_16 (by kernel_rfl)
      refine ⟨118, #[.agg #[.int .i64 x.a0, .int .i64 x.a1], .pointer (some ⟨nb, 0, none⟩)], by go_simp, ?_⟩
      refine (some1_any w.heap.size ib lb nb x.a0 x.a1 HB.out.1.1 HB.out.1.2.1 HB.out.1.2.2 wr hW.fz.nx hW.fz.fn HN.out.2).mono ?_
      rintro e w2 ⟨r, rfl, q2, q3, q4⟩
      refine ⟨_, { sg with con := r }, rfl, hW.call0 n17 q2 q3 q4 HN.out, rfl, ?_⟩
      intro i u hi h
      have i0 : i ≠ 3 := by rintro rfl; rw [hl] at hi; cases hi
      have i1 : i ≠ 16 := by rintro rfl; rw [n16] at hi; cases hi
      unfold SmV at h ⊢
      split at h <;> first | exact h | exact absurd rfl i0 | exact absurd rfl i1
    · refine step_pure fun sg ly a wr hl hd hW hF => ?_
      have et6 := hF.old 6 (by kernel_rfl)
      simp [Act.eval] at et6
      exact ⟨hW.other _ (by decide), .func (.func 118) #[] #[.pointer (some ⟨nb, 0, none⟩)], by go_simp, rfl⟩
    · refine step_pure fun sg ly a wr hl hd hW hF => ?_
      have et2 := hF.old 2 (by kernel_rfl)
      simp [Act.eval] at et2
      exact ⟨hW.other _ (by decide), .pointer (some ⟨xb, 2, none⟩), by go_simp, rfl⟩
    · refine step_pure fun sg ly a wr hl hd hW hF => ?_
      simp [Region.binds] at hd
      have et15 := hF.new 5 15 (by simp [hd]) rfl
      simp [SmV, Act.eval] at et15
      have c0 := hW.fz.kp.cell (HX.out.1 2 _ rfl) HX.out.2.1
      have c1 := hW.fz.kp.cell (HX.out.1 3 _ rfl) HX.out.2.1
      exact ⟨hW.other _ (by decide), _, by go_simp, rfl⟩
    · refine step_call fun sg ly a wr hl hd hW hF => ?_
      simp [Region.binds] at hd
      have et14 := hF.new 4 14 (by simp [hd]) rfl
      simp [SmV, Act.eval] at et14
      have et16 := hF.new 6 16 (by simp [hd]) rfl
      simp [SmV, Act.eval] at et16
      have n16 := hF.notYet 7 16 hl (by kernel_rfl)
      have n17_16 := hF.notYet 7 16 hl (by kernel_rfl)
      have n17 := hF.notYet 16 17 n17_16 (by kernel_rfl)
      refine ⟨118, #[.agg #[.int .i64 x.b0, .int .i64 x.b1], .pointer (some ⟨nb, 0, none⟩)], by go_simp, ?_⟩
      refine (some1_any w.heap.size ib lb nb x.b0 x.b1 HB.out.2.1.1 HB.out.2.1.2.1 HB.out.2.1.2.2 wr hW.fz.nx hW.fz.fn HN.out.2).mono ?_
      rintro e w2 ⟨r, rfl, q2, q3, q4⟩
      refine ⟨_, { sg with thk := r }, rfl, hW.call1 n17 q2 q3 q4 HN.out, rfl, ?_⟩
      intro i u hi h
      have i0 : i ≠ 7 := by rintro rfl; rw [hl] at hi; cases hi
      have i1 : i ≠ 16 := by rintro rfl; rw [n16] at hi; cases hi
      unfold SmV at h ⊢
      split at h <;> first | exact h | exact absurd rfl i0 | exact absurd rfl i1
    · refine step_pure fun sg ly a wr hl hd hW hF => ?_
      have et6 := hF.old 6 (by kernel_rfl)
      simp [Act.eval] at et6
      exact ⟨hW.other _ (by decide), .func (.func 118) #[] #[.pointer (some ⟨nb, 0, none⟩)], by go_simp, rfl⟩
    · refine step_pure fun sg ly a wr hl hd hW hF => ?_
      have et2 := hF.old 2 (by kernel_rfl)
      simp [Act.eval] at et2
      exact ⟨hW.other _ (by decide), .pointer (some ⟨xb, 4, none⟩), by go_simp, rfl⟩
    · refine step_pure fun sg ly a wr hl hd hW hF => ?_
      simp [Region.binds] at hd
      have et19 := hF.new 9 19 (by simp [hd]) rfl
      simp [SmV, Act.eval] at et19
      have c0 := hW.fz.kp.cell (HX.out.1 4 _ rfl) HX.out.2.1
      have c1 := hW.fz.kp.cell (HX.out.1 5 _ rfl) HX.out.2.1
      exact ⟨hW.other _ (by decide), _, by go_simp, rfl⟩
    · refine step_call fun sg ly a wr hl hd hW hF => ?_
      simp [Region.binds] at hd
      have et18 := hF.new 8 18 (by simp [hd]) rfl
      simp [SmV, Act.eval] at et18
      have et20 := hF.new 10 20 (by simp [hd]) rfl
      simp [SmV, Act.eval] at et20
      have n16 := hF.notYet 11 16 hl (by kernel_rfl)
      have n17_16 := hF.notYet 11 16 hl (by kernel_rfl)
      have n17 := hF.notYet 16 17 n17_16 (by kernel_rfl)
      refine ⟨118, #[.agg #[.int .i64 x.c0, .int .i64 x.c1], .pointer (some ⟨nb, 0, none⟩)], by go_simp, ?_⟩
      refine (some1_any w.heap.size ib lb nb x.c0 x.c1 HB.out.2.2.1.1 HB.out.2.2.1.2.1 HB.out.2.2.1.2.2 wr hW.fz.nx hW.fz.fn HN.out.2).mono ?_
      rintro e w2 ⟨r, rfl, q2, q3, q4⟩
      refine ⟨_, { sg with rid := r }, rfl, hW.call2 n17 q2 q3 q4 HN.out, rfl, ?_⟩
      intro i u hi h
      have i0 : i ≠ 11 := by rintro rfl; rw [hl] at hi; cases hi
      have i1 : i ≠ 16 := by rintro rfl; rw [n16] at hi; cases hi
      unfold SmV at h ⊢
      split at h <;> first | exact h | exact absurd rfl i0 | exact absurd rfl i1
    · refine step_pure fun sg ly a wr hl hd hW hF => ?_
      have et6 := hF.old 6 (by kernel_rfl)
      simp [Act.eval] at et6
      exact ⟨hW.other _ (by decide), .func (.func 118) #[] #[.pointer (some ⟨nb, 0, none⟩)], by go_simp, rfl⟩
    · refine step_pure fun sg ly a wr hl hd hW hF => ?_
      have et2 := hF.old 2 (by kernel_rfl)
      simp [Act.eval] at et2
      exact ⟨hW.other _ (by decide), .pointer (some ⟨xb, 6, none⟩), by go_simp, rfl⟩
    · refine step_pure fun sg ly a wr hl hd hW hF => ?_
      simp [Region.binds] at hd
      have et23 := hF.new 13 23 (by simp [hd]) rfl
      simp [SmV, Act.eval] at et23
      have c0 := hW.fz.kp.cell (HX.out.1 6 _ rfl) HX.out.2.1
      have c1 := hW.fz.kp.cell (HX.out.1 7 _ rfl) HX.out.2.1
      exact ⟨hW.other _ (by decide), _, by go_simp, rfl⟩
    · refine step_call fun sg ly a wr hl hd hW hF => ?_
      simp [Region.binds] at hd
      have et22 := hF.new 12 22 (by simp [hd]) rfl
      simp [SmV, Act.eval] at et22
      have et24 := hF.new 14 24 (by simp [hd]) rfl
      simp [SmV, Act.eval] at et24
      have n16 := hF.notYet 15 16 hl (by kernel_rfl)
      have n17_16 := hF.notYet 15 16 hl (by kernel_rfl)
      have n17 := hF.notYet 16 17 n17_16 (by kernel_rfl)
      refine ⟨118, #[.agg #[.int .i64 x.d0, .int .i64 x.d1], .pointer (some ⟨nb, 0, none⟩)], by go_simp, ?_⟩
      refine (some1_any w.heap.size ib lb nb x.d0 x.d1 HB.out.2.2.2.1 HB.out.2.2.2.2.1 HB.out.2.2.2.2.2 wr hW.fz.nx hW.fz.fn HN.out.2).mono ?_
      rintro e w2 ⟨r, rfl, q2, q3, q4⟩
      refine ⟨_, { sg with prs := r }, rfl, hW.call3 n17 q2 q3 q4 HN.out, rfl, ?_⟩
      intro i u hi h
      have i0 : i ≠ 15 := by rintro rfl; rw [hl] at hi; cases hi
      have i1 : i ≠ 16 := by rintro rfl; rw [n16] at hi; cases hi
      unfold SmV at h ⊢
      split at h <;> first | exact h | exact absurd rfl i0 | exact absurd rfl i1
    · refine step_pure fun sg ly a wr hl hd hW hF => ?_
      simp [Region.binds] at hd
      have et13 := hF.new 3 13 (by simp [hd]) rfl
      simp [SmV, Act.eval] at et13
      have et17 := hF.new 7 17 (by simp [hd]) rfl
      simp [SmV, Act.eval] at et17
      have et21 := hF.new 11 21 (by simp [hd]) rfl
      simp [SmV, Act.eval] at et21
      have et25 := hF.new 15 25 (by simp [hd]) rfl
      simp [SmV, Act.eval] at et25
      exact ⟨hW.other _ (by decide), _, by go_simp, rfl⟩
    · refine step_store rfl fun sg ly a wr hl hd hW hF => ?_
      simp [Region.binds] at hd
      have et4 := hF.old 4 (by kernel_rfl)
      simp [Act.eval] at et4
      have et26 := hF.new 16 26 (by simp [hd]) rfl
      simp [SmV, Act.eval] at et26
      have hq := hW.ob
      rw [hl] at hq
      have c0 := (cell_of_heap hq 0).trans rfl
      have f0 := frozen_of_heap hq 0
      have c1 := (cell_of_heap hq 1).trans rfl
      have f1 := frozen_of_heap hq 1
      have c2 := (cell_of_heap hq 2).trans rfl
      have f2 := frozen_of_heap hq 2
      have c3 := (cell_of_heap hq 3).trans rfl
      have f3 := frozen_of_heap hq 3
      have zq := heap_lt hq
      exact ⟨_, sg, .skip, by go_simp, .inl rfl, hW.store hl HN.out, fun _ _ _ h => h⟩
  intro sg a w5 hWW hF
  obtain ⟨f, hf, rfl⟩ := hF.lit
  have hob := hWW.ob
  simp only [List.length_cons, List.length_nil, Nat.reduceAdd, Nat.reduceLT, decide_true, if_true] at hob
  have hio := in_ok HO.out (hWW.r0 rfl) (hWW.r1 rfl) (hWW.r2 rfl) (hWW.r3 rfl)
  have H5 := Lib.hid (And.intro hio (H2.out.2.2.1.trans ((hWW.fz.kp.below H2.out.2.2.1.size (by simpa using H2.out.2.2.2)))))
  have HOH := Lib.hid hob
  clear hf hF hWW hob hio
  simp only [List.filterMap, List.foldl, List.setIfInBounds_toArray, List.set_cons_succ, List.set_cons_zero]
  go_wp2_with fail
  exact bodyPost_ret (ice_results (r := 4) rfl HOH.out _ rfl) rfl ⟨sg, rfl, H5.out.1.1, H5.out.1.2, H5.out.2⟩

set_option linter.unusedVariables false
def Rc1V (D : Nat) (W0 : World) (ib lb nb ob : Nat) (s : Ice) : Nat → Value → Prop
  | 0, v => v = .func (.func 114) #[] #[.pointer (some ⟨ib, 0, none⟩), .pointer (some ⟨lb, 0, none⟩)]
  | 1, v => v = .int .i64 s.con
  | 2, v => v = .func (.func 114) #[] #[.pointer (some ⟨ib, 0, none⟩), .pointer (some ⟨lb, 0, none⟩)]
  | 3, v => v = .int .i64 s.thk
  | 4, v => v = .func (.func 114) #[] #[.pointer (some ⟨ib, 0, none⟩), .pointer (some ⟨lb, 0, none⟩)]
  | 5, v => v = .int .i64 s.rid
  | 6, v => v = .func (.func 114) #[] #[.pointer (some ⟨ib, 0, none⟩), .pointer (some ⟨lb, 0, none⟩)]
  | 7, v => v = .int .i64 s.prs
  | 8, v => v = .agg (ic4 s)
  | _, _ => True
def Rc1W (D : Nat) (W0 : World) (ib lb nb ob : Nat) (s : Ice) (l : Nat → Bool) (w : World) : Prop := DrW D W0 ib lb nb ob (fun k => (0, if k = 3 then 29 else 255)) 1 3 5 7 9 s l w

def RatePost (D : Nat) (w : World) (ib lb : Nat) (e : Ending) (w' : World) : Prop := ∃ i : Ice, e = .returned (.agg (ic4 i)) ∧ ((0 ≤ i.con ∧ i.con ≤ 255) ∧ (0 ≤ i.thk ∧ i.thk ≤ 255) ∧ (0 ≤ i.rid ∧ i.rid ≤ 255) ∧ (0 ≤ i.prs ∧ i.prs ≤ 29)) ∧ NxS D w' ib lb ∧ Keep [ib] w w'
set_option maxRecDepth 100000 in
set_option maxHeartbeats 4000000 in
theorem rate_any (D ib lb nb : Nat) (w : World) (hn : NxS D w ib lb) (hf : w.cell? ⟨nb, 0, none⟩ = some (.func (.func 114) #[] #[.pointer (some ⟨ib, 0, none⟩), .pointer (some ⟨lb, 0, none⟩)])) (hnb : nb ≠ ib) :
    Calls Try.prog 68 #[.pointer (some ⟨nb, 0, none⟩)] w (RatePost D w ib lb) := by
  obtain ⟨W, hW⟩ : ∃ W, W = w.alloc (.cells #[.int .i64 0, .int .i64 0, .int .i64 0, .int .i64 0] 111) := ⟨_, rfl⟩
  obtain ⟨ob, hob⟩ : ∃ b, b = w.heap.size := ⟨_, rfl⟩
  have hoh : W.heap[ob]? = some (.cells #[.int .i64 0, .int .i64 0, .int .i64 0, .int .i64 0] 111 (0, 0)) := by rw [hW, hob]; exact heap_alloc_new _ _
  have bW : Below w.heap.size w W := by rw [hW]; exact (Below.refl _ _).alloc (Nat.le_refl _) _
  have hlt := hn.lt
  have hnl : nb < w.heap.size := World.block_lt_of_cell? _ _ hf
  have HN := Lib.hid (show (ob ≠ ib ∧ ob ≠ lb ∧ ob ≠ nb ∧ D ≤ ob) ∧ nb ≠ ib from by omega)
  have HR := Lib.hid (And.intro (hn.below bW) (And.intro ((bW.cell hnl).trans hf) (And.intro hoh (And.intro bW (show w.heap.size ≤ ob by omega)))))
  clear hoh bW hn hf hnb hlt hnl
  go_enter Try.func68, Try.ntmps68
  go_upto_region 1 with fail
  rw [← hW, ← hob]
  clear hW hob
  refine wp_region_steps (σ := Ice) (by kernel_rfl) (by kernel_rfl) (fun sg jx vx _ => Rc1V D W ib lb nb ob sg jx vx) (fun sg ly wx => Rc1W D W ib lb nb ob sg ly wx) ⟨0, 0, 0, 0⟩ ?_ ?_ ?_
  · exact ⟨FzW.start HR.out.1 HR.out.2.1, (fun h => by cases h), (fun h => by cases h), (fun h => by cases h), (fun h => by cases h), by rw [if_neg (by simp)]; exact HR.out.2.2.1⟩
  · simp only [AllFrom, Nat.zero_add, Nat.reduceAdd]
    refine ⟨?_, ?_, ?_, ?_, ?_, ?_, ?_, ?_, ?_, ?_, trivial⟩
    · refine step_pure fun sg ly a wr hl hd hW hF => ?_
      have et0 := hF.old 0 (by kernel_rfl)
      simp [Act.eval] at et0
      have c0 := hW.fz.fn
      exact ⟨hW.other _ (by decide), _, by go_simp, rfl⟩
    · refine step_call fun sg ly a wr hl hd hW hF => ?_
      simp [Region.binds] at hd
      have et2 := hF.new 0 2 (by simp [hd]) rfl
      simp [Rc1V, Act.eval] at et2
      have n8 := hF.notYet 1 8 hl (by kernel_rfl)
      have n9_8 := hF.notYet 1 8 hl (by kernel_rfl)
      have n9 := hF.notYet 8 9 n9_8 (by kernel_rfl)
      refine ⟨114, #[.int .i64 256, .pointer (some ⟨ib, 0, none⟩), .pointer (some ⟨lb, 0, none⟩)], by go_simp, ?_⟩
      refine (next_some 256 hW.fz.nx (by decide)).mono ?_
      rintro e w2 ⟨r, rfl, q2, q3, q4, _⟩
      refine ⟨_, { sg with con := r }, rfl, hW.call0 n9 (by simp only; omega) q3 q4 HN.out, rfl, ?_⟩
      intro i u hi h
      have i0 : i ≠ 1 := by rintro rfl; rw [hl] at hi; cases hi
      have i1 : i ≠ 8 := by rintro rfl; rw [n8] at hi; cases hi
      unfold Rc1V at h ⊢
      split at h <;> first | exact h | exact absurd rfl i0 | exact absurd rfl i1
    · refine step_pure fun sg ly a wr hl hd hW hF => ?_
      have et0 := hF.old 0 (by kernel_rfl)
      simp [Act.eval] at et0
      have c0 := hW.fz.fn
      exact ⟨hW.other _ (by decide), _, by go_simp, rfl⟩
    · refine step_call fun sg ly a wr hl hd hW hF => ?_
      simp [Region.binds] at hd
      have et4 := hF.new 2 4 (by simp [hd]) rfl
      simp [Rc1V, Act.eval] at et4
      have n8 := hF.notYet 3 8 hl (by kernel_rfl)
      have n9_8 := hF.notYet 3 8 hl (by kernel_rfl)
      have n9 := hF.notYet 8 9 n9_8 (by kernel_rfl)
      refine ⟨114, #[.int .i64 256, .pointer (some ⟨ib, 0, none⟩), .pointer (some ⟨lb, 0, none⟩)], by go_simp, ?_⟩
      refine (next_some 256 hW.fz.nx (by decide)).mono ?_
      rintro e w2 ⟨r, rfl, q2, q3, q4, _⟩
      refine ⟨_, { sg with thk := r }, rfl, hW.call1 n9 (by simp only; omega) q3 q4 HN.out, rfl, ?_⟩
      intro i u hi h
      have i0 : i ≠ 3 := by rintro rfl; rw [hl] at hi; cases hi
      have i1 : i ≠ 8 := by rintro rfl; rw [n8] at hi; cases hi
      unfold Rc1V at h ⊢
      split at h <;> first | exact h | exact absurd rfl i0 | exact absurd rfl i1
    · refine step_pure fun sg ly a wr hl hd hW hF => ?_
      have et0 := hF.old 0 (by kernel_rfl)
      simp [Act.eval] at et0
      have c0 := hW.fz.fn
      exact ⟨hW.other _ (by decide), _, by go_simp, rfl⟩
    · refine step_call fun sg ly a wr hl hd hW hF => ?_
      simp [Region.binds] at hd
      have et6 := hF.new 4 6 (by simp [hd]) rfl
      simp [Rc1V, Act.eval] at et6
      have n8 := hF.notYet 5 8 hl (by kernel_rfl)
      have n9_8 := hF.notYet 5 8 hl (by kernel_rfl)
      have n9 := hF.notYet 8 9 n9_8 (by kernel_rfl)
      refine ⟨114, #[.int .i64 256, .pointer (some ⟨ib, 0, none⟩), .pointer (some ⟨lb, 0, none⟩)], by go_simp, ?_⟩
      refine (next_some 256 hW.fz.nx (by decide)).mono ?_
      rintro e w2 ⟨r, rfl, q2, q3, q4, _⟩
      refine ⟨_, { sg with rid := r }, rfl, hW.call2 n9 (by simp only; omega) q3 q4 HN.out, rfl, ?_⟩
      intro i u hi h
      have i0 : i ≠ 5 := by rintro rfl; rw [hl] at hi; cases hi
      have i1 : i ≠ 8 := by rintro rfl; rw [n8] at hi; cases hi
      unfold Rc1V at h ⊢
      split at h <;> first | exact h | exact absurd rfl i0 | exact absurd rfl i1
    · refine step_pure fun sg ly a wr hl hd hW hF => ?_
      have et0 := hF.old 0 (by kernel_rfl)
      simp [Act.eval] at et0
      have c0 := hW.fz.fn
      exact ⟨hW.other _ (by decide), _, by go_simp, rfl⟩
    · refine step_call fun sg ly a wr hl hd hW hF => ?_
      simp [Region.binds] at hd
      have et8 := hF.new 6 8 (by simp [hd]) rfl
      simp [Rc1V, Act.eval] at et8
      have n8 := hF.notYet 7 8 hl (by kernel_rfl)
      have n9_8 := hF.notYet 7 8 hl (by kernel_rfl)
      have n9 := hF.notYet 8 9 n9_8 (by kernel_rfl)
      refine ⟨114, #[.int .i64 30, .pointer (some ⟨ib, 0, none⟩), .pointer (some ⟨lb, 0, none⟩)], by go_simp, ?_⟩
      refine (next_some 30 hW.fz.nx (by decide)).mono ?_
      rintro e w2 ⟨r, rfl, q2, q3, q4, _⟩
      refine ⟨_, { sg with prs := r }, rfl, hW.call3 n9 (by simp only; omega) q3 q4 HN.out, rfl, ?_⟩
      intro i u hi h
      have i0 : i ≠ 7 := by rintro rfl; rw [hl] at hi; cases hi
      have i1 : i ≠ 8 := by rintro rfl; rw [n8] at hi; cases hi
      unfold Rc1V at h ⊢
      split at h <;> first | exact h | exact absurd rfl i0 | exact absurd rfl i1
    · refine step_pure fun sg ly a wr hl hd hW hF => ?_
      simp [Region.binds] at hd
      have et3 := hF.new 1 3 (by simp [hd]) rfl
      simp [Rc1V, Act.eval] at et3
      have et5 := hF.new 3 5 (by simp [hd]) rfl
      simp [Rc1V, Act.eval] at et5
      have et7 := hF.new 5 7 (by simp [hd]) rfl
      simp [Rc1V, Act.eval] at et7
      have et9 := hF.new 7 9 (by simp [hd]) rfl
      simp [Rc1V, Act.eval] at et9
      exact ⟨hW.other _ (by decide), _, by go_simp, rfl⟩
    · refine step_store rfl fun sg ly a wr hl hd hW hF => ?_
      simp [Region.binds] at hd
      have et1 := hF.old 1 (by kernel_rfl)
      simp [Act.eval] at et1
      have et10 := hF.new 8 10 (by simp [hd]) rfl
      simp [Rc1V, Act.eval] at et10
      have hq := hW.ob
      rw [hl] at hq
      have c0 := (cell_of_heap hq 0).trans rfl
      have f0 := frozen_of_heap hq 0
      have c1 := (cell_of_heap hq 1).trans rfl
      have f1 := frozen_of_heap hq 1
      have c2 := (cell_of_heap hq 2).trans rfl
      have f2 := frozen_of_heap hq 2
      have c3 := (cell_of_heap hq 3).trans rfl
      have f3 := frozen_of_heap hq 3
      have zq := heap_lt hq
      exact ⟨_, sg, .skip, by go_simp, .inl rfl, hW.store hl HN.out, fun _ _ _ h => h⟩
  intro sg a w5 hWW hF
  obtain ⟨f, hf, rfl⟩ := hF.lit
  have hob := hWW.ob
  simp only [List.length_cons, List.length_nil, Nat.reduceAdd, Nat.reduceLT, decide_true, if_true] at hob
  have hio : (0 ≤ sg.con ∧ sg.con ≤ 255) ∧ (0 ≤ sg.thk ∧ sg.thk ≤ 255) ∧ (0 ≤ sg.rid ∧ sg.rid ≤ 255) ∧ (0 ≤ sg.prs ∧ sg.prs ≤ 29) := ⟨hWW.r0 rfl, hWW.r1 rfl, hWW.r2 rfl, hWW.r3 rfl⟩
  have H5 := Lib.hid (And.intro hio (And.intro hWW.fz.nx ((Keep.of_below (S := [ib]) HR.out.2.2.2.1).trans hWW.fz.kp (fun z hz => by simp at hz; rcases hz with e | e; exact .inl (by simp [e]); exact .inr (by rw [e]; exact HR.out.2.2.2.2)))))
  have HOH := Lib.hid hob
  clear hf hF hWW hob hio
  simp only [List.filterMap, List.foldl, List.setIfInBounds_toArray, List.set_cons_succ, List.set_cons_zero]
  go_wp2_with fail
  exact bodyPost_ret (ice_results (r := 1) rfl HOH.out _ rfl) rfl ⟨sg, rfl, H5.out.1, H5.out.2.1, H5.out.2.2⟩

end Go.Proofs.Ytfmhlnfcbbpfeaa
