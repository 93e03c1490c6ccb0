/- restrict.Audit -/
import Derived.Test.YtbgnkljjgfcngaaGreatRSp8
import Derived.Test.YtbgnkljjgfcngaaGreatRSp14
import Derived.Deep.DeepCutAuto
import Derived.Test.YtbgnkljjgfcngaaGreatRSp17
set_option linter.unusedVariables false
set_option linter.unusedSimpArgs false
namespace Go.Proofs.YtbgnkljjgfcngaaGreat
open Go Go.RowKit Go.Shelf Go.Proofs Sp
attribute [local go_sem] Oper.semAt_some
set_option linter.unusedVariables false

/-- how many orders agree, from the first one on -/
def cpl : List Ord → List Ord → Nat
  | x :: xs, y :: ys => if x = y then cpl xs ys + 1 else 0
  | _, _ => 0
theorem cpl_at : ∀ {O l : List Ord} {k : Nat}, l.take k = O.take k → k < O.length → k ≤ l.length → l[k]? ≠ O[k]? → cpl O l = k ∧ O ≠ l
  | [], _, k, _, h, _, _ => absurd h (by simp)
  | x :: xs, [], k, _, _, h, _ => by
    obtain rfl : k = 0 := by simpa using h
    exact ⟨rfl, by simp⟩
  | x :: xs, y :: ys, 0, _, _, _, h => by
    have hne : x ≠ y := fun e => h (by simp [e])
    exact ⟨by rw [cpl, if_neg hne], fun e => hne (by injection e)⟩
  | x :: xs, y :: ys, k + 1, h1, h2, h3, h4 => by
    simp only [List.take_succ_cons, List.cons.injEq] at h1
    obtain ⟨e1, e2⟩ := cpl_at (O := xs) (l := ys) (k := k) h1.2 (by simpa using h2) (by simpa using h3) (by simpa using h4)
    exact ⟨by rw [cpl, if_pos h1.1.symm, e1], fun e => e2 (by injection e)⟩
theorem cpl_all : ∀ {O l : List Ord}, l.take O.length = O → cpl O l = O.length
  | [], l, _ => by cases l <;> rfl
  | x :: xs, [], h => by simp at h
  | x :: xs, y :: ys, h => by
    simp only [List.length_cons, List.take_succ_cons, List.cons.injEq] at h
    rw [cpl, if_pos h.1.symm, cpl_all h.2]; rfl
def auditR (p : Pol) (days : List Int) (l : List Ord) : Int × Int := if startS p days ≠ 0 then (0, startS p days) else ((cpl (ordersS p days) l : Int), if ordersS p days = l then 0 else 7)
def AuditPost (w : World) (p : Pol) (days : List Int) (l : List Ord) (e : Ending) (w' : World) : Prop :=
  e = .returned (.tuple #[.int .i64 (auditR p days l).1, .int .i64 (auditR p days l).2]) ∧ Below w.heap.size w w'

/-- what the loop of Audit keeps: n0: the function's own first block, B: the first block behind the loop's beginning -/
structure AuSt (w0 W : World) (n0 nb r6 r7 lb : Nat) (Al : Option Addr) (cl : Nat) (l : List Ord) (k a b : Int) : Prop where
  sp : lb = n0 + 1 ∧ r6 = n0 + 2 ∧ r7 = n0 + 3 ∧ n0 + 3 < nb
  cnt : W.heap[nb]? = some (.cells #[.int .i64 k] 3 (0, 0))
  res : W.heap[r6]? = some (.cells #[.int .i64 a] 3 (0, 0))
  err : W.heap[r7]? = some (.cells #[.int .i64 b] 50 (0, 0))
  lst : W.heap[lb]? = some (.cells #[.slice Al l.length cl] 41 (0, 0))
  rd : Rd W 3 Al l.length (occs l)
  bel : Below n0 w0 W
  low : 0 < l.length → ∀ b off, Al = some ⟨b, off, none⟩ → b < n0
section
variable {w0 W W' : World} {n0 nb r6 r7 lb : Nat} {Al : Option Addr} {cl : Nat} {l : List Ord} {k a b : Int}
theorem AuSt.alloc (h : AuSt w0 W n0 nb r6 r7 lb Al cl l k a b) (o : Obj) : AuSt w0 (W.alloc o) n0 nb r6 r7 lb Al cl l k a b :=
  ⟨h.sp, heap_alloc' h.cnt _, heap_alloc' h.res _, heap_alloc' h.err _, heap_alloc' h.lst _, h.rd.below ((Below.refl _ _).alloc (Nat.le_refl _) _), h.bel.alloc (by have := h.sp; have := heap_lt h.cnt; omega) _, h.low⟩
theorem AuSt.drewN (h : AuSt w0 W n0 nb r6 r7 lb Al cl l k a b) (n : Nat) : AuSt w0 (W.drewN n) n0 nb r6 r7 lb Al cl l k a b :=
  ⟨h.sp, h.cnt, h.res, h.err, h.lst, h.rd, below_drewN h.bel n, h.low⟩
theorem AuSt.kept (h : AuSt w0 W n0 nb r6 r7 lb Al cl l k a b) {row : Option Nat} (hg : W.grownBy W' row) (hr : ∀ r, row = some r → ∃ o : Obj, W.heap[r]? = some o ∧ o.isCells = false) (hb : ∀ r, row = some r → n0 ≤ r) : AuSt w0 W' n0 nb r6 r7 lb Al cl l k a b := by
  have kp : ∀ {g : Nat} {cs : Array Value} {t : TypeId}, W.heap[g]? = some (.cells cs t (0, 0)) → W'.heap[g]? = some (.cells cs t (0, 0)) := fun hk => (grownBy_keeps_cells hg hr hk rfl).trans hk
  refine ⟨h.sp, kp h.cnt, kp h.res, kp h.err, kp h.lst, ⟨h.rd.1, fun h0 => ?_⟩, ⟨hg.os.trans h.bel.os, hg.tape.trans h.bel.tape, hg.output.trans h.bel.output, Nat.le_trans h.bel.size hg.size, fun i hi => ?_⟩, h.low⟩
  · obtain ⟨b', off, e, hl, hc⟩ := h.rd.2 h0
    exact ⟨b', off, e, Nat.lt_of_lt_of_le hl hg.size, fun j u hu => cell_kept (hc j u hu) hg hr⟩
  · have hi' : i < W.heap.size := by have := h.sp; have := heap_lt h.cnt; omega
    exact (hg.block i hi' (fun e => by have := hb i e.symm; omega)).trans (h.bel.block i hi)
theorem AuSt.keepRd (h : AuSt w0 W n0 nb r6 r7 lb Al cl l k a b) {x : Nat} (hx : n0 ≤ x) (v : Value) : Rd (W.setCell ⟨x, 0, none⟩ v) 3 Al l.length (occs l) :=
  ⟨h.rd.1, fun h0 => ((((Keep.refl [x] W).setCell (p := ⟨x, 0, none⟩) (.inl (by simp)) v).rd h.rd (fun b off e => by have := h.low h0 b off e; simp; omega)).2 h0)⟩
theorem AuSt.setCnt (h : AuSt w0 W n0 nb r6 r7 lb Al cl l k a b) (k' : Int) : AuSt w0 (W.setCell ⟨nb, 0, none⟩ (.int .i64 k')) n0 nb r6 r7 lb Al cl l k' a b := by
  have sp := h.sp
  exact ⟨sp, heap_set h.cnt 0 _, heap_set_ne h.res (by simp; omega) _, heap_set_ne h.err (by simp; omega) _, heap_set_ne h.lst (by simp; omega) _, h.keepRd (by omega) _, h.bel.setCell (by simp; omega) _, h.low⟩
theorem AuSt.setRes (h : AuSt w0 W n0 nb r6 r7 lb Al cl l k a b) (k' : Int) : AuSt w0 (W.setCell ⟨r6, 0, none⟩ (.int .i64 k')) n0 nb r6 r7 lb Al cl l k k' b := by
  have sp := h.sp
  exact ⟨sp, heap_set_ne h.cnt (by simp; omega) _, heap_set h.res 0 _, heap_set_ne h.err (by simp; omega) _, heap_set_ne h.lst (by simp; omega) _, h.keepRd (by omega) _, h.bel.setCell (by simp; omega) _, h.low⟩
theorem AuSt.setErr (h : AuSt w0 W n0 nb r6 r7 lb Al cl l k a b) (k' : Int) : AuSt w0 (W.setCell ⟨r7, 0, none⟩ (.int .i64 k')) n0 nb r6 r7 lb Al cl l k a k' := by
  have sp := h.sp
  exact ⟨sp, heap_set_ne h.cnt (by simp; omega) _, heap_set_ne h.res (by simp; omega) _, heap_set h.err 0 _, heap_set_ne h.lst (by simp; omega) _, h.keepRd (by omega) _, h.bel.setCell (by simp; omega) _, h.low⟩
theorem AuSt.cells (h : AuSt w0 W n0 nb r6 r7 lb Al cl l k a b) : W.cell? ⟨nb, 0, none⟩ = some (.int .i64 k) ∧ W.cell? ⟨r6, 0, none⟩ = some (.int .i64 a) ∧ W.cell? ⟨r7, 0, none⟩ = some (.int .i64 b) ∧ W.cell? ⟨lb, 0, none⟩ = some (.slice Al l.length cl) ∧ W.frozen? ⟨nb, 0, none⟩ = false ∧ W.frozen? ⟨r6, 0, none⟩ = false ∧ W.frozen? ⟨r7, 0, none⟩ = false ∧ (nb < W.heap.size ∧ r6 < W.heap.size ∧ r7 < W.heap.size ∧ lb < W.heap.size) :=
  ⟨(cell_of_heap h.cnt 0).trans rfl, (cell_of_heap h.res 0).trans rfl, (cell_of_heap h.err 0).trans rfl, (cell_of_heap h.lst 0).trans rfl, frozen_of_heap h.cnt 0, frozen_of_heap h.res 0, frozen_of_heap h.err 0, heap_lt h.cnt, heap_lt h.res, heap_lt h.err, heap_lt h.lst⟩
end
theorem KpF.set_ {free : Nat → Obj → Prop} {W : World} {b : Nat} {cs : Array Value} {t : TypeId} (h : W.heap[b]? = some (.cells cs t (0, 0))) (hf : free b (.cells cs t (0, 0))) (i : Nat) (v : Value) : KpF free W (W.setCell ⟨b, i, none⟩ v) :=
  ⟨by simp [World.setCell], fun k o hk hc hn => by
    by_cases e : k = b
    · subst e; rw [h] at hk; injection hk with hk; subst hk; exact absurd hf hn
    · exact (Below.heap_setCell W ⟨b, i, none⟩ v k e).trans hk⟩
theorem KpF.refl {free : Nat → Obj → Prop} (W : World) : KpF free W W := ⟨Nat.le_refl _, fun _ _ h _ _ => h⟩
theorem KpF.drewN {free : Nat → Obj → Prop} (W : World) (n : Nat) : KpF free W (W.drewN n) := ⟨Nat.le_refl _, fun _ _ h _ _ => h⟩
theorem keepsDrewN (W : World) (n : Nat) : KeepsOthers W (W.drewN n) := ⟨Nat.le_refl _, fun _ _ h _ => h⟩
/-- what a round of Audit writes -/
def auFree (nb r6 r7 : Nat) (k : Nat) (o : Obj) : Prop := ∃ cs t, o = .cells cs t (0, 0) ∧ ((k = nb ∧ t = 3) ∨ (k = r6 ∧ t = 3) ∨ (k = r7 ∧ t = 50))

theorem run_loadVar_i64 {w : World} {b : Nat} {k : Int} (h : w.cell? ⟨b, 0, none⟩ = some (.int .i64 k)) : (loadVar 3 ⟨b, 0, none⟩).run Tryz.prog w = .ok (.int .i64 k) w := by
  have h1 : (isAgg 3).run Tryz.prog w = .ok false w := by kernel_rfl
  simp [loadVar, h1, h]
theorem run_loadVar_errno {w : World} {b : Nat} {k : Int} (h : w.cell? ⟨b, 0, none⟩ = some (.int .i64 k)) : (loadVar 50 ⟨b, 0, none⟩).run Tryz.prog w = .ok (.int .i64 k) w := by
  have h1 : (isAgg 50).run Tryz.prog w = .ok false w := by kernel_rfl
  simp [loadVar, h1, h]
theorem au_below {w W : World} {n0 nb r6 r7 lb : Nat} {Al : Option Addr} {cl : Nat} {l : List Ord} {k a b : Int} (h : AuSt w W n0 nb r6 r7 lb Al cl l k a b) {D : Nat} (o' : Obj) (hD : n0 ≤ D) : Below n0 w (W.putObj D o') :=
  h.bel.trans ((Below.refl n0 W).grown (grownBy_putObj' W D o') (by have := heap_lt h.cnt; have := h.sp; omega) (fun k e => by cases e; exact hD))
theorem au_results {w W : World} {n0 nb r6 r7 lb : Nat} {Al : Option Addr} {cl : Nat} {l : List Ord} {k a b : Int} (h : AuSt w W n0 nb r6 r7 lb Al cl l k a b) {D : Nat} {o o' : Obj} (hK : W.heap[D]? = some o) (hc : o.isCells = false) (tmps : Array Value)
    (h6 : tmps.getD 6 undef = .pointer (some ⟨r6, 0, none⟩)) (h7 : tmps.getD 7 undef = .pointer (some ⟨r7, 0, none⟩)) :
    (results Tryz.f30 tmps).run Tryz.prog (W.putObj D o') = .ok (.tuple #[.int .i64 a, .int .i64 b]) (W.putObj D o') := by
  have n6 : r6 ≠ D := fun e => by subst e; rw [h.res] at hK; cases hK; cases hc
  have n7 : r7 ≠ D := fun e => by subst e; rw [h.err] at hK; cases hK; cases hc
  have e6 : (W.putObj D o').cell? ⟨r6, 0, none⟩ = some (.int .i64 a) := (cell_of_heap ((World.putObj_heap_other n6).trans h.res) 0).trans rfl
  have e7 : (W.putObj D o').cell? ⟨r7, 0, none⟩ = some (.int .i64 b) := (cell_of_heap ((World.putObj_heap_other n7).trans h.err) 0).trans rfl
  have hr : Tryz.f30.results = #[.cell 6 3, .cell 7 50] := rfl
  have g6 : tmps[6]?.getD undef = .pointer (some ⟨r6, 0, none⟩) := by simpa using h6
  have g7 : tmps[7]?.getD undef = .pointer (some ⟨r7, 0, none⟩) := by simpa using h7
  simp [results, g6, g7, asAddr, run_loadVar_i64 e6, run_loadVar_errno e7]

set_option maxRecDepth 100000 in
set_option maxHeartbeats 4000000 in
theorem Audit_ok (As : Option Addr) (cs : Nat) (p : Pol) (A : Option Addr) (c : Nat) (days : List Int) (Al : Option Addr) (cl : Nat) (l : List Ord) (w : World) (hp : PolV w As cs p) (hr : Rd w 1 A days.length (ints days)) (hm : days.length ≤ 9223372036854775807) (hrl : Rd w 3 Al l.length (occs l)) (hml : l.length ≤ 9223372036854775807) (hs0 : startS p days = 0) :
    Calls Tryz.prog 30 #[.agg #[.slice As p.steps.length cs, .int .i64 p.hold, .int .i64 p.calm, .int .i64 p.notice, .int .i64 p.grace], .slice A days.length c, .slice Al l.length cl] w (AuditPost w p days l) := by
  obtain ⟨hck, hl4, _⟩ := start_ok hs0
  have HC := Lib.hid (check_ok hck)
  obtain ⟨n0, hn0⟩ : ∃ n0, n0 = w.heap.size := ⟨_, rfl⟩
  have HP := Lib.hid (And.intro hp (And.intro hr (And.intro hrl (And.intro hs0 hn0))))
  clear hp hr hrl hs0 hn0 hck
  refine (callsIn_wide (n := 9)).1 ?_
  refine callsIn_of_wp_marks Tryz.func30 rfl trivial ?_ rfl
  simp only [Tryz.ntmps30, List.size_toArray, List.length_cons, List.length_nil, Nat.reduceAdd, Nat.reduceSub, Array.replicate_succ, Array.replicate_zero, List.push_toArray, List.append_toArray, List.nil_append, List.cons_append]
  gi_wp2_with fail
  rw [← HP.out.2.2.2.2]
  obtain ⟨lb, hlb⟩ : ∃ lb, lb = n0 + 1 := ⟨_, rfl⟩
  obtain ⟨r6, hr6⟩ : ∃ r6, r6 = lb + 1 := ⟨_, rfl⟩
  obtain ⟨r7, hr7⟩ : ∃ r7, r7 = r6 + 1 := ⟨_, rfl⟩
  rw [← hlb, ← hr6, ← hr7]
  obtain ⟨w1, hw1⟩ : ∃ w1, w1 = ((((w.alloc (.cells #[.slice As p.steps.length cs, .int .i64 p.hold, .int .i64 p.calm, .int .i64 p.notice, .int .i64 p.grace] 25)).alloc (.cells #[.slice Al l.length cl] 41)).alloc (.cells #[.int .i64 0] 3)).alloc (.cells #[.int .i64 0] 50)) := ⟨_, rfl⟩
  rw [← hw1]
  have sz1 : w1.heap.size = n0 + 4 := by rw [hw1, HP.out.2.2.2.2]; simp
  have b1 : Below n0 w w1 := by rw [hw1, HP.out.2.2.2.2]; exact ((((Below.refl _ _).alloc (Nat.le_refl _) _).alloc (by simp) _).alloc (by simp; omega) _).alloc (by simp; omega) _
  have hl1 : w1.heap[lb]? = some (.cells #[.slice Al l.length cl] 41 (0, 0)) := by
    rw [hw1]
    refine heap_alloc' (heap_alloc' ?_ _) _
    have := heap_alloc_new (w.alloc (.cells #[.slice As p.steps.length cs, .int .i64 p.hold, .int .i64 p.calm, .int .i64 p.notice, .int .i64 p.grace] 25)) (.cells #[.slice Al l.length cl] 41)
    rw [World.size_alloc, ← HP.out.2.2.2.2, ← hlb] at this
    exact this
  have hl6 : w1.heap[r6]? = some (.cells #[.int .i64 0] 3 (0, 0)) := by
    rw [hw1]
    refine heap_alloc' ?_ _
    have := heap_alloc_new ((w.alloc (.cells #[.slice As p.steps.length cs, .int .i64 p.hold, .int .i64 p.calm, .int .i64 p.notice, .int .i64 p.grace] 25)).alloc (.cells #[.slice Al l.length cl] 41)) (.cells #[.int .i64 0] 3)
    rw [World.size_alloc, World.size_alloc, ← HP.out.2.2.2.2, ← hlb, ← hr6] at this
    exact this
  have hl7 : w1.heap[r7]? = some (.cells #[.int .i64 0] 50 (0, 0)) := by
    rw [hw1]
    have := heap_alloc_new (((w.alloc (.cells #[.slice As p.steps.length cs, .int .i64 p.hold, .int .i64 p.calm, .int .i64 p.notice, .int .i64 p.grace] 25)).alloc (.cells #[.slice Al l.length cl] 41)).alloc (.cells #[.int .i64 0] 3)) (.cells #[.int .i64 0] 50)
    rw [World.size_alloc, World.size_alloc, World.size_alloc, ← HP.out.2.2.2.2, ← hlb, ← hr6, ← hr7] at this
    exact this
  have hb1 : Below w.heap.size w w1 := by rw [← HP.out.2.2.2.2]; exact b1
  have hst := start8_any As cs p A c days w1 ⟨HP.out.1.1, HP.out.1.2.1, HP.out.1.2.2.below hb1⟩ (HP.out.2.1.below hb1) hm
  have H1 := Lib.hid (And.intro hst (And.intro b1 (And.intro hl1 (And.intro hl6 (And.intro hl7 (And.intro hb1 (And.intro sz1 (And.intro hlb (And.intro hr6 hr7)))))))))
  clear hst b1 hl1 hl6 hl7 hw1 hb1 sz1 hlb hr6 hr7
  refine ⟨trivial, ?_⟩
  refine (callsIn_wide.2 H1.out.1).mono ?_
  rintro e w2 ⟨pp, rfl, hB2, h0, _⟩
  obtain ⟨pb, rfl, hpol⟩ := h0 HP.out.2.2.2.1
  rw [HP.out.2.2.2.1]
  have H2 := Lib.hid (And.intro hB2 hpol)
  clear hB2 h0 hpol
  gi_wp2_with fail
  obtain ⟨rb, hrb⟩ : ∃ rb, rb = w2.heap.size := ⟨_, rfl⟩
  obtain ⟨nb, hnb⟩ : ∃ nb, nb = rb + 1 := ⟨_, rfl⟩
  rw [← hrb, ← hnb]
  obtain ⟨w3, hw3⟩ : ∃ w3, w3 = (w2.alloc (.cells #[.pointer (some ⟨pb, 0, none⟩)] 132)).alloc (.cells #[.int .i64 0] 3) := ⟨_, rfl⟩
  rw [← hw3]
  have sz3 : w3.heap.size = nb + 1 := by rw [hw3, hnb, hrb]; simp
  have s12 := H2.out.1.size
  have b23 : Below w2.heap.size w2 w3 := by rw [hw3]; exact ((Below.refl _ _).alloc (Nat.le_refl _) _).alloc (by simp) _
  have b13 : Below w1.heap.size w1 w3 := H2.out.1.trans (b23.mono s12)
  have hn3 : w3.heap[nb]? = some (.cells #[.int .i64 0] 3 (0, 0)) := by
    rw [hw3, hnb, hrb]
    have := heap_alloc_new (w2.alloc (.cells #[.pointer (some ⟨pb, 0, none⟩)] 132)) (.cells #[.int .i64 0] 3)
    rw [World.size_alloc] at this
    exact this
  have st3 : AuSt w w3 n0 nb r6 r7 lb Al cl l 0 0 0 := by
    obtain ⟨_, b1, hl1, hl6, hl7, hb1, sz1, e1, e2, e3⟩ := H1.out
    have kp : ∀ {g : Nat} {o : Obj}, w1.heap[g]? = some o → w3.heap[g]? = some o := fun h => (b13.block _ (heap_lt h)).trans h
    exact ⟨⟨by omega, by omega, by omega, by omega⟩, hn3, kp hl6, kp hl7, kp hl1, (HP.out.2.2.1.below hb1).below b13, b1.trans (b13.mono (by omega)), fun h0 b off e => by rw [HP.out.2.2.2.2]; exact HP.out.2.2.1.lt' h0 e⟩
  have hp3 : PolAt w3 pb p := H2.out.2.below b23
  have hr3 : Rd w3 1 A days.length (ints days) := (HP.out.2.1.below H1.out.2.2.2.2.2.1).below b13
  have H3 := Lib.hid (And.intro st3 (And.intro hp3 (And.intro hr3 sz3)))
  clear hrb hw3 s12 b23 b13 hn3 st3 hp3 hr3 sz3 H2 H1
  refine ⟨trivial, ?_⟩
  refine (callsIn_wide.2 (orders_any (.pointer (some ⟨pb, 0, none⟩)) A days.length c w3)).mono ?_
  rintro e w4 ⟨rfl, hw4⟩
  rw [H3.out.2.2.2]
  obtain ⟨rx, hrx⟩ : ∃ rx, rx = nb + 1 := ⟨_, rfl⟩
  obtain ⟨db, hdb⟩ : ∃ db, db = rx + 1 := ⟨_, rfl⟩
  rw [← hrx, ← hdb]
  have b34 : ∀ o o', Below w3.heap.size w3 ((w3.alloc o).alloc o') := fun o o' => ((Below.refl _ _).alloc (Nat.le_refl _) _).alloc (by simp) _
  have st4 : AuSt w w4 n0 nb r6 r7 lb Al cl l 0 0 0 := by rw [hw4]; exact (H3.out.1.alloc _).alloc _
  have hp4 : PolAt w4 pb p := by rw [hw4]; exact H3.out.2.1.below (b34 _ _)
  have hr4 : Rd w4 1 A days.length (ints days) := by rw [hw4]; exact H3.out.2.2.1.below (b34 _ _)
  have sz4 : w4.heap.size = db + 1 := by rw [hw4, hdb, hrx]; simp; exact H3.out.2.2.2
  have hx4 : w4.heap[rx]? = some (.cells #[.pointer (some ⟨pb, 0, none⟩)] 132 (0, 0)) := by
    rw [hw4, hrx, ← H3.out.2.2.2]; exact heap_alloc' (heap_alloc_new _ _) _
  have hd4 : w4.heap[db]? = some (.cells #[.slice A days.length c] 22 (0, 0)) := by
    rw [hw4, hdb, hrx, ← H3.out.2.2.2]
    have := heap_alloc_new (w3.alloc (.cells #[.pointer (some ⟨pb, 0, none⟩)] 132)) (.cells #[.slice A days.length c] 22)
    rw [World.size_alloc] at this
    exact this
  have H4 := Lib.hid (And.intro st4 (And.intro hp4 (And.intro hr4 (And.intro sz4 (And.intro hx4 (And.intro hd4 (And.intro hrx hdb)))))))
  clear hw4 hrx hdb b34 st4 hp4 hr4 sz4 hx4 hd4 hnb
  gi_wp2_with fail
  have HSP := Lib.hid H4.out.1.sp
  have hi : nb < w4.heap.size ∧ r6 < w4.heap.size ∧ r7 < w4.heap.size ∧ n0 ≤ w4.heap.size := by have := HSP.out; have := heap_lt H4.out.1.cnt; omega
  obtain ⟨ck1, ck2, ck3, ck4, ck5, ck6, ck7, ck8, ck9, ck10⟩ := HC.out
  refine wpIn_rangeFunc_ownH rfl (by omega) (gf := 114) (lb := #[.pointer (some ⟨rx, 0, none⟩), .pointer (some ⟨db, 0, none⟩)]) rfl trivial (enters_of Tryz.func114 (by kernel_rfl) rfl)
    (orders1_stops (auFree nb r6 r7) rx db pb p A c days w4 H4.out.2.1 ⟨ck3, by omega⟩ ⟨ck5, by omega⟩ ⟨ck7, by omega⟩ H4.out.2.2.2.2.1 H4.out.2.2.2.2.2.1 H4.out.2.2.1 (by omega)
      (by rintro k cs hk ⟨cs', t, e, h⟩; rcases h with ⟨h, _⟩ | ⟨h, _⟩ | ⟨h, _⟩ <;> omega) (by rintro cs ⟨cs', t, e, h⟩; cases e; simp at h) (by rintro cs ⟨cs', t, e, h⟩; cases e; simp at h) _ (by omega))
    (fun h h' => h.trans h') (fun W l o o' _ hl ho _ => KpF.putObj hl ho o') (Below.refl _ _) (fun _ => rfl)
    (fun pre W => AuSt w W n0 nb r6 r7 lb Al cl l pre.length 0 0 ∧ pre.length ≤ l.length ∧ l.take pre.length = pre)
    (fun cx pre W => cx = .ret ∧ ∃ k : Nat, AuSt w W n0 nb r6 r7 lb Al cl l k k 7 ∧ k + 1 = pre.length ∧ k ≤ l.length ∧ l.take k = pre.take k ∧ l[k]? ≠ pre[k]?)
    (fun pre W W' row hs hg hr => ⟨hs.1.kept hg (fun r e => (hr r e).2) (fun r e => by have := (hr r e).1; omega), hs.2⟩)
    (fun cx pre W W' row hs hg hr => by
      obtain ⟨e1, k, h1, h2⟩ := hs
      exact ⟨e1, k, h1.kept hg (fun r e => (hr r e).2) (fun r e => by have := (hr r e).1; omega), h2⟩)
    ⟨H4.out.1, by simp, by simp⟩
    (fun x a' W => ∃ Bx, w4.heap.size ≤ w4.heap.size ∧ W.heap[Bx]? = some (.cells #[.int .i64 x.iss, .int .i64 x.frm, .int .i64 x.stp] 40 (0, 0)) ∧ a' = { tmps := #[.agg #[.slice As p.steps.length cs, .int .i64 p.hold, .int .i64 p.calm, .int .i64 p.notice, .int .i64 p.grace], .slice A days.length c, .slice Al l.length cl, .pointer (some ⟨n0, 0, none⟩), undef, .pointer (some ⟨lb, 0, none⟩), .pointer (some ⟨r6, 0, none⟩), .pointer (some ⟨r7, 0, none⟩), .pointer (some ⟨rb, 0, none⟩), .int .i64 0, .pointer (some ⟨nb, 0, none⟩), .pointer (some ⟨Bx, 0, none⟩), .tuple #[.agg #[.pointer (some ⟨pb, 0, none⟩)], .int .i64 0], .agg #[.slice As p.steps.length cs, .int .i64 p.hold, .int .i64 p.calm, .int .i64 p.notice, .int .i64 p.grace], .slice A days.length c, .tuple #[.agg #[.pointer (some ⟨pb, 0, none⟩)], .int .i64 0], .agg #[.pointer (some ⟨pb, 0, none⟩)], .int .i64 0, .int .i64 0, .bool false, undef, .agg #[.pointer (some ⟨pb, 0, none⟩)], .slice A days.length c, .func (.func 114) #[] #[.pointer (some ⟨rx, 0, none⟩), .pointer (some ⟨db, 0, none⟩)], .agg #[.int .i64 x.iss, .int .i64 x.frm, .int .i64 x.stp], undef, undef, undef, undef, undef, undef, undef, undef, undef, undef, undef, undef, undef, undef, undef, undef, undef, undef, undef, undef, undef], defers := [] })
    (fun x a' s X Y row hs hg hrow => by
      obtain ⟨Bx, h1, h2, h3⟩ := hs
      refine ⟨Bx, h1, (hg.block Bx (heap_lt h2) (fun e => ?_)).trans h2, h3⟩
      obtain ⟨_, o, ho, hc⟩ := hrow Bx e.symm
      rw [h2] at ho; cases ho; cases hc)
    ?assign ?body ?done ?stop
  case assign =>
    rintro l' pre x W K ⟨hst, hpl, hpt⟩ hK
    simp only [orc]
    gi_wp2
    exact hK _ _ ((KeepsOthers.alloc _ _).from _) ⟨by simp, fun _ _ hk _ _ => heap_alloc' hk _⟩ ⟨hst.alloc _, hpl, hpt⟩ ⟨W.heap.size, Nat.le_refl _, heap_alloc_new W _, rfl⟩
  case body =>
    rintro l' pre x a' W hlw ⟨r, hr⟩ ⟨hst, hpl, hpt⟩ ⟨Bx, hBx, bX, rfl⟩ hlt
    dsimp only
    obtain ⟨k, hk⟩ : ∃ k, k = pre.length := ⟨_, rfl⟩
    rw [← hk] at hst hpl hpt hlt
    obtain ⟨c1, c2, c3, c4, f1, f2, f3, z1, z2, z3, z4⟩ := hst.cells
    have x0 : W.cell? ⟨Bx, 0, none⟩ = some (.int .i64 x.iss) := (cell_of_heap bX 0).trans rfl
    have x1 : W.cell? ⟨Bx, 1, none⟩ = some (.int .i64 x.frm) := (cell_of_heap bX 1).trans rfl
    have x2 : W.cell? ⟨Bx, 2, none⟩ = some (.int .i64 x.stp) := (cell_of_heap bX 2).trans rfl
    have HS := Lib.hid (And.intro hst (And.intro hpt hk))
    have hn1 : nb ≠ r6 := by have := HSP.out; omega
    have hn2 : nb ≠ r7 := by have := HSP.out; omega
    have hn3 : r6 ≠ r7 := by have := HSP.out; omega
    have HN := Lib.hid (And.intro hn1 (And.intro hn2 hn3))
    clear hst hpt hk hr hlw
    have retok : l[k]? ≠ some x → ∀ a' nq, ownPostG w4.heap.size (KpF (auFree nb r6 r7)) (fun pre W => AuSt w W n0 nb r6 r7 lb Al cl l pre.length 0 0 ∧ pre.length ≤ l.length ∧ l.take pre.length = pre)
        (fun cx pre W => cx = .ret ∧ ∃ k : Nat, AuSt w W n0 nb r6 r7 lb Al cl l k k 7 ∧ k + 1 = pre.length ∧ k ≤ l.length ∧ l.take k = pre.take k ∧ l[k]? ≠ pre[k]?) (pre ++ [x]) W .ret a' (((W.setCell ⟨r6, 0, none⟩ (.int .i64 k)).setCell ⟨r7, 0, none⟩ (.int .i64 7)).drewN nq) := by
      intro hne a' nq
      obtain ⟨hst, hpt, hk⟩ := HS.out
      refine ⟨(((KeepsOthers.setCell _ _ _).trans (KeepsOthers.setCell _ _ _)).trans (keepsDrewN _ _)).from _, rfl, k, ((hst.setRes k).setErr 7).drewN _, by simp; exact hk, hpl, ?_, ?_⟩
      · rw [List.take_append_of_le_length (by omega), hpt, List.take_of_length_le (by omega)]
      · rw [List.getElem?_append_right (by omega), hk]; simpa using hk ▸ hne
    have nok : l[k]? = some x → k < l.length → ∀ a' nq, ownPostG w4.heap.size (KpF (auFree nb r6 r7)) (fun pre W => AuSt w W n0 nb r6 r7 lb Al cl l pre.length 0 0 ∧ pre.length ≤ l.length ∧ l.take pre.length = pre)
        (fun cx pre W => cx = .ret ∧ ∃ k : Nat, AuSt w W n0 nb r6 r7 lb Al cl l k k 7 ∧ k + 1 = pre.length ∧ k ≤ l.length ∧ l.take k = pre.take k ∧ l[k]? ≠ pre[k]?) (pre ++ [x]) W .normal a' ((W.setCell ⟨nb, 0, none⟩ (.int .i64 ((k : Int) + 1))).drewN nq) := by
      intro he hkl a' nq
      obtain ⟨hst, hpt, hk⟩ := HS.out
      have hl1 : (pre ++ [x]).length = k + 1 := by simp; exact hk.symm
      refine ⟨((KeepsOthers.setCell _ _ _).trans (keepsDrewN _ _)).from _, (KpF.set_ hst.cnt ⟨_, _, rfl, .inl ⟨rfl, rfl⟩⟩ 0 _).trans (KpF.drewN _ _), ?_, by omega, ?_⟩
      · rw [hl1]; exact (hst.setCnt ((k + 1 : Nat) : Int)).drewN _
      · rw [hl1, List.take_succ_eq_append_getElem hkl, hpt]
        rw [List.getElem?_eq_getElem hkl] at he
        injection he with he
        rw [he]
    have HR := Lib.hid (And.intro retok nok)
    clear retok nok
    by_cases hkl : k = l.length
    · have hb1 : ((k : Int) == (l.length : Int)) = true := by simp [hkl]
      have HK := Lib.hid hkl
      clear hkl
      gi_upto_region 7 with fail
      refine region_quietR (by kernel_rfl) (by kernel_rfl) (by kernel_rfl) ?_
      repeat (gi_big_quiet_step (fail))
      refine wpQuietIn_nil ?_
      intro _ hw'
      obtain ⟨nq, hw''⟩ := hw'
      subst hw''
      gi_wp2
      exact HR.out.1 (by rw [List.getElem?_eq_none (by have := HK.out; omega)]; simp) _ _
    · have hb1 : ((k : Int) == (l.length : Int)) = false := by simp; omega
      have hkl' : k < l.length := by omega
      have hkI : (0 : Int) ≤ (k : Int) ∧ (k : Int) < (l.length : Int) := by omega
      obtain ⟨y, hy⟩ : ∃ y, y = l[k] := ⟨_, rfl⟩
      obtain ⟨bl, ol, rfl, hbl, hcl⟩ := HS.out.1.rd.2 (by omega)
      obtain ⟨s0, s1, s2⟩ := occs_get hkl'
      rw [← hy] at s0 s1 s2
      have y0 := hcl _ _ s0
      have y1 : W.cell? ⟨bl, ol + k * 3 + 1, none⟩ = _ := hcl _ _ s1
      have y2 : W.cell? ⟨bl, ol + k * 3 + 2, none⟩ = _ := hcl _ _ s2
      have HY := Lib.hid hy
      clear hkl hcl s0 s1 s2 hy hbl
      by_cases hxy : y = x
      · subst hxy
        have hne : ∀ w, (binOp .neq 40 (.agg #[.int .i64 y.iss, .int .i64 y.frm, .int .i64 y.stp]) (.agg #[.int .i64 y.iss, .int .i64 y.frm, .int .i64 y.stp])).run Tryz.prog w = .ok (.bool false) w := fun w => by rw [ord_neq]; simp
        gi_upto_region 7 with fail
        refine region_quietR (by kernel_rfl) (by kernel_rfl) (by kernel_rfl) ?_
        repeat (gi_big_quiet_step (fail))
        refine wpQuietIn_nil ?_
        intro _ hw'
        obtain ⟨nq, hw''⟩ := hw'
        subst hw''
        gi_wp2
        exact HR.out.2 (by rw [List.getElem?_eq_getElem hkl', HY.out]) hkl' _ _
      · have hne : ∀ w, (binOp .neq 40 (.agg #[.int .i64 y.iss, .int .i64 y.frm, .int .i64 y.stp]) (.agg #[.int .i64 x.iss, .int .i64 x.frm, .int .i64 x.stp])).run Tryz.prog w = .ok (.bool true) w := fun w => by rw [ord_neq]; simp [hxy]
        gi_upto_region 7 with fail
        refine region_quietR (by kernel_rfl) (by kernel_rfl) (by kernel_rfl) ?_
        repeat (gi_big_quiet_step (fail))
        refine wpQuietIn_nil ?_
        intro _ hw'
        obtain ⟨nq, hw''⟩ := hw'
        subst hw''
        gi_wp2
        exact HR.out.1 (by rw [List.getElem?_eq_getElem hkl', ← HY.out]; simpa using hxy) _ _
  case done =>
    rintro D ys W hD rfl ⟨hst, hpl, hpt⟩ hK
    obtain ⟨c1, c2, c3, c4, f1, f2, f3, z1, z2, z3, z4⟩ := hst.cells
    dsimp only
    have HS := Lib.hid (And.intro hst (And.intro hpt hK))
    have hn1 : nb ≠ r6 := by have := HSP.out; omega
    have hn2 : nb ≠ r7 := by have := HSP.out; omega
    have hn3 : r6 ≠ r7 := by have := HSP.out; omega
    have HN := Lib.hid (And.intro hn1 (And.intro hn2 hn3))
    clear hst hpt hK
    by_cases hlt : ((ordersS p days).length : Int) < l.length
    · gi_wp2
      obtain ⟨hst, hpt, hK⟩ := HS.out
      have st9 := (hst.setRes ((ordersS p days).length : Int)).setErr 7
      have hK9 : ((W.setCell ⟨r6, 0, none⟩ (.int .i64 ((ordersS p days).length : Int))).setCell ⟨r7, 0, none⟩ (.int .i64 7)).heap[D]? = some (.deferred (some [])) := by
        have n6 : D ≠ r6 := fun e => by subst e; rw [hst.res] at hK; cases hK
        have n7 : D ≠ r7 := fun e => by subst e; rw [hst.err] at hK; cases hK
        exact (Below.heap_setCell _ _ _ D n7).trans ((Below.heap_setCell _ _ _ D n6).trans hK)
      have hne : ordersS p days ≠ l := fun e => by rw [e] at hlt; exact absurd hlt (by omega)
      refine ⟨by simp, .inl ⟨_, _, rfl, run_takeDeferred hK9, _, au_results st9 hK9 rfl _ rfl rfl, ?_, ?_⟩⟩
      · rw [auditR, if_neg (by simpa using HP.out.2.2.2.1), cpl_all hpt, if_neg hne]
      · rw [← HP.out.2.2.2.2]; exact au_below st9 _ (by omega)
    · gi_wp2
      obtain ⟨hst, hpt, hK⟩ := HS.out
      have st9 := (hst.setRes ((ordersS p days).length : Int)).setErr 0
      have hK9 : ((W.setCell ⟨r6, 0, none⟩ (.int .i64 ((ordersS p days).length : Int))).setCell ⟨r7, 0, none⟩ (.int .i64 0)).heap[D]? = some (.deferred (some [])) := by
        have n6 : D ≠ r6 := fun e => by subst e; rw [hst.res] at hK; cases hK
        have n7 : D ≠ r7 := fun e => by subst e; rw [hst.err] at hK; cases hK
        exact (Below.heap_setCell _ _ _ D n7).trans ((Below.heap_setCell _ _ _ D n6).trans hK)
      have he : ordersS p days = l := by rw [← hpt, List.take_of_length_le (by omega)]
      refine ⟨by simp, .inl ⟨_, _, rfl, run_takeDeferred hK9, _, au_results st9 hK9 rfl _ rfl rfl, ?_, ?_⟩⟩
      · rw [auditR, if_neg (by simpa using HP.out.2.2.2.1), cpl_all hpt, if_pos he]
      · rw [← HP.out.2.2.2.2]; exact au_below st9 _ (by omega)
  case stop =>
    rintro D cx pre W hD ⟨suf, hpre⟩ ⟨rfl, k, hst, hk1, hkl, hpt, hne⟩ hK
    dsimp only
    gi_wp2
    have hcp := cpl_at (O := ordersS p days) (l := l) (k := k) (by rw [hpt, ← hpre, List.take_append_of_le_length (by omega)]) (by rw [← hpre]; simp; omega) hkl (by rw [← hpre, List.getElem?_append_left (by omega)]; exact hne)
    refine ⟨by simp, .inl ⟨_, _, rfl, run_takeDeferred hK, _, au_results hst hK rfl _ rfl rfl, ?_, ?_⟩⟩
    · rw [auditR, if_neg (by simpa using HP.out.2.2.2.1), hcp.1, if_neg hcp.2]
    · rw [← HP.out.2.2.2.2]; exact au_below hst _ (by omega)

set_option maxRecDepth 100000 in
set_option maxHeartbeats 1000000 in
theorem Audit_any (As : Option Addr) (cs : Nat) (p : Pol) (A : Option Addr) (c : Nat) (days : List Int) (Al : Option Addr) (cl : Nat) (l : List Ord) (w : World) (hp : PolV w As cs p) (hr : Rd w 1 A days.length (ints days)) (hm : days.length ≤ 9223372036854775807) (hrl : Rd w 3 Al l.length (occs l)) (hml : l.length ≤ 9223372036854775807) :
    Calls Tryz.prog 30 #[.agg #[.slice As p.steps.length cs, .int .i64 p.hold, .int .i64 p.calm, .int .i64 p.notice, .int .i64 p.grace], .slice A days.length c, .slice Al l.length cl] w (AuditPost w p days l) := by
  by_cases hs0 : startS p days = 0
  · exact Audit_ok As cs p A c days Al cl l w hp hr hm hrl hml hs0
  have HP := Lib.hid (And.intro hp (And.intro hr (And.intro hrl hs0)))
  have hne : (startS p days != 0) = true := by simpa using hs0
  clear hp hr hrl hs0
  go_enter Tryz.func30, Tryz.ntmps30
  go_wp2_with fail
  obtain ⟨n0, hn0⟩ : ∃ n0, n0 = w.heap.size := ⟨_, rfl⟩
  obtain ⟨lb, hlb⟩ : ∃ lb, lb = n0 + 1 := ⟨_, rfl⟩
  obtain ⟨r6, hr6⟩ : ∃ r6, r6 = lb + 1 := ⟨_, rfl⟩
  obtain ⟨r7, hr7⟩ : ∃ r7, r7 = r6 + 1 := ⟨_, rfl⟩
  rw [← hn0, ← hlb, ← hr6, ← hr7]
  obtain ⟨w1, hw1⟩ : ∃ w1, w1 = ((((w.alloc (.cells #[.slice As p.steps.length cs, .int .i64 p.hold, .int .i64 p.calm, .int .i64 p.notice, .int .i64 p.grace] 25)).alloc (.cells #[.slice Al l.length cl] 41)).alloc (.cells #[.int .i64 0] 3)).alloc (.cells #[.int .i64 0] 50)) := ⟨_, rfl⟩
  rw [← hw1]
  have b1 : Below w.heap.size w w1 := by rw [hw1]; exact ((((Below.refl _ _).alloc (Nat.le_refl _) _).alloc (by simp) _).alloc (by simp; omega) _).alloc (by simp; omega) _
  have sz1 : w1.heap.size = r7 + 1 := by rw [hw1, hr7, hr6, hlb, hn0]; simp
  have hl6 : w1.heap[r6]? = some (.cells #[.int .i64 0] 3 (0, 0)) := by
    rw [hw1]
    refine heap_alloc' ?_ _
    have := heap_alloc_new ((w.alloc (.cells #[.slice As p.steps.length cs, .int .i64 p.hold, .int .i64 p.calm, .int .i64 p.notice, .int .i64 p.grace] 25)).alloc (.cells #[.slice Al l.length cl] 41)) (.cells #[.int .i64 0] 3)
    rw [World.size_alloc, World.size_alloc, ← hn0, ← hlb, ← hr6] at this
    exact this
  have hl7 : w1.heap[r7]? = some (.cells #[.int .i64 0] 50 (0, 0)) := by
    rw [hw1]
    have := heap_alloc_new (((w.alloc (.cells #[.slice As p.steps.length cs, .int .i64 p.hold, .int .i64 p.calm, .int .i64 p.notice, .int .i64 p.grace] 25)).alloc (.cells #[.slice Al l.length cl] 41)).alloc (.cells #[.int .i64 0] 3)) (.cells #[.int .i64 0] 50)
    rw [World.size_alloc, World.size_alloc, World.size_alloc, ← hn0, ← hlb, ← hr6, ← hr7] at this
    exact this
  have hst := start8_any As cs p A c days w1 ⟨HP.out.1.1, HP.out.1.2.1, HP.out.1.2.2.below b1⟩ (HP.out.2.1.below b1) hm
  have h67 : r6 ≠ r7 := by omega
  have H1 := Lib.hid (And.intro hst (And.intro b1 (And.intro sz1 (And.intro hl6 (And.intro hl7 (And.intro hn0 (And.intro hlb (And.intro hr6 hr7))))))))
  clear hst b1 sz1 hn0 hlb hr6 hr7 hl6 hl7 hw1
  refine H1.out.1.mono ?_
  rintro e w2 ⟨pp, rfl, hB2, _, _⟩
  obtain ⟨_, b1, sz1, hl6, hl7, hn0, hlb, hr6, hr7⟩ := H1.out
  obtain ⟨w3, hw3⟩ : ∃ w3, w3 = w2.alloc (.cells #[.pointer pp] 132) := ⟨_, rfl⟩
  have b13 : Below w1.heap.size w1 w3 := by rw [hw3]; exact hB2.alloc hB2.size _
  have g6 : w3.heap[r6]? = some (.cells #[.int .i64 0] 3 (0, 0)) := (b13.block _ (by omega)).trans hl6
  have g7 : w3.heap[r7]? = some (.cells #[.int .i64 0] 50 (0, 0)) := (b13.block _ (by omega)).trans hl7
  have b3 : Below w.heap.size w w3 := b1.trans (b13.mono (by omega))
  have c6 : w3.cell? ⟨r6, 0, none⟩ = some (.int .i64 0) := (cell_of_heap g6 0).trans rfl
  have c7 : w3.cell? ⟨r7, 0, none⟩ = some (.int .i64 0) := (cell_of_heap g7 0).trans rfl
  have f6 : w3.frozen? ⟨r6, 0, none⟩ = false := frozen_of_heap g6 0
  have f7 : w3.frozen? ⟨r7, 0, none⟩ = false := frozen_of_heap g7 0
  have q3 : w2.heap.size < w3.heap.size := by rw [hw3]; simp
  have f8 : w3.cell? ⟨w2.heap.size, 0, none⟩ = some (.pointer pp) := by rw [hw3]; exact cell_new_one _ _ _
  have z8 : w2.heap.size ≠ r6 ∧ w2.heap.size ≠ r7 := by have := hB2.size; omega
  have z6 := heap_lt g6
  have z7 := heap_lt g7
  have H3 := Lib.hid (And.intro b3 (And.intro hn0 (And.intro hlb (And.intro hr6 (And.intro hr7 (And.intro g6 (And.intro g7 z8)))))))
  clear g6 g7 z8 b3 b13 b1 hn0 hlb hr6 hr7 hl6 hl7 sz1 hB2
  go_upto_region 2 with fail
  rw [← hw3]
  generalize w2.heap.size = s2 at *
  clear hw3
  go_wp2_with fail
  obtain ⟨b3, hn0, hlb, hr6, hr7, g6, g7, z8⟩ := H3.out
  have k6 : ((w3.setCell ⟨r6, 0, none⟩ (.int .i64 0)).setCell ⟨r7, 0, none⟩ (.int .i64 (startS p days))).heap[r6]? = some (.cells #[.int .i64 0] 3 (0, 0)) := heap_set_ne (heap_set g6 0 _) (by simpa using h67) _
  have k7 : ((w3.setCell ⟨r6, 0, none⟩ (.int .i64 0)).setCell ⟨r7, 0, none⟩ (.int .i64 (startS p days))).heap[r7]? = some (.cells #[.int .i64 (startS p days)] 50 (0, 0)) := heap_set (heap_set_ne g7 (by simpa using h67.symm) _) 0 _
  have e6 := (cell_of_heap k6 0).trans rfl
  have e7 := (cell_of_heap k7 0).trans rfl
  have hr : Tryz.f30.results = #[.cell 6 3, .cell 7 50] := rfl
  refine bodyPost_ret (v := .tuple #[.int .i64 0, .int .i64 (startS p days)]) (by simp [results, asAddr, run_loadVar_i64 e6, run_loadVar_errno e7]) rfl ⟨?_, (b3.setCell (by simp; omega) _).setCell (by simp; omega) _⟩
  rw [auditR, if_pos (by simpa using hne)]
end Go.Proofs.YtbgnkljjgfcngaaGreat
/- polynyaref08.Audit -/
namespace Go.Proofs.YtbgnkljjgfcngaaGreat
open Go Go.RowKit Sp
set_option linter.unusedVariables false

set_option maxRecDepth 100000 in
set_option maxHeartbeats 2000000 in
theorem rAudit_any (As : Option Addr) (cs : Nat) (p : Pol) (A : Option Addr) (c : Nat) (days : List Int) (Al : Option Addr) (cl : Nat) (l : List Ord) (w : World) (hp : PolV w As cs p) (hr : Rd w 1 A days.length (ints days)) (hm : days.length ≤ 9223372036854775807) (hrl : Rd w 3 Al l.length (occs l)) (hml : l.length ≤ 1000000) :
    Calls Tryz.prog 31 #[.agg #[.slice As p.steps.length cs, .int .i64 p.hold, .int .i64 p.calm, .int .i64 p.notice, .int .i64 p.grace], .slice A days.length c, .slice Al l.length cl] w (AuditPost w p days l) := by
  have rd0 := RD.new (A := A) (days := days) hp hr
  obtain ⟨W, hW⟩ : ∃ W, W = w.alloc (.cells #[.slice As p.steps.length cs, .int .i64 p.hold, .int .i64 p.calm, .int .i64 p.notice, .int .i64 p.grace] 65) := ⟨_, rfl⟩
  obtain ⟨ob, hob⟩ : ∃ ob, ob = w.heap.size := ⟨_, rfl⟩
  rw [← hW, ← hob] at rd0
  obtain ⟨er, her⟩ : ∃ er, er = startS p days := ⟨_, rfl⟩
  have k1 := rOrders_any As cs p A c days W rd0.pol rd0.dys hm
  obtain ⟨q0, q1, q2, q3, q4, zp⟩ := rd0.cells
  have HR := Lib.hid (And.intro rd0 (And.intro k1 (And.intro her (hrl.below rd0.bel))))
  clear hp hr rd0 k1 hrl
  go_enter Tryz.func31, Tryz.ntmps31
  go_upto_region 1 with fail
  rw [← hW, ← hob]
  clear hW hob
  go_wp2_with fail
  refine HR.out.2.1.mono ?_
  rintro e w1 ⟨A1, c1, rfl, h1, h2, b1⟩
  rw [← her]
  have rd1 := HR.out.1.below b1
  have hL := HR.out.2.2.2.below b1
  clear q0 q1 q2 q3 q4 zp
  by_cases h0 : er = 0
  · subst h0
    have hLL : rOrdersL p days = ordersS p days := by unfold rOrdersL; rw [if_pos her.symm]
    rw [hLL] at h1 h2 ⊢
    obtain ⟨O, hO⟩ : ∃ O, O = ordersS p days := ⟨_, rfl⟩
    rw [← hO] at h1 h2 ⊢
    have H1 := Lib.hid (And.intro rd1.bel (And.intro h1 (And.intro hL (And.intro hO her))))
    clear rd1 h1 hL hO hLL b1 her
    obtain ⟨n, hn⟩ : ∃ n : Nat, n = min l.length O.length := ⟨_, rfl⟩
    have hn1 : n ≤ l.length := by omega
    have hn2 : n ≤ O.length := by omega
    have hn3 : n = l.length ∨ n = O.length := by omega
    have hmin : (if (l.length : Int) < (O.length : Int) then (l.length : Int) else (O.length : Int)) = (n : Int) := by split <;> omega
    have HM := Lib.hid hmin
    have HN := Lib.hid hn
    clear hmin hn
    by_cases hlo : O.length < l.length
    case' pos => (have hlo2 : (O.length : Int) < (l.length : Int) := by omega); have hnl : (n : Int) = (O.length : Int) := by have := HN.out; omega
    case' neg => (have hlo2 : ¬ (O.length : Int) < (l.length : Int) := by omega); have hnl : (n : Int) = (l.length : Int) := by have := HN.out; omega
    all_goals
      have HNL := Lib.hid hnl
      clear hnl
      go_wp2_with fail
      simp only [← HNL.out]
      go_loopw [11] (fun i wr => ∃ k : Nat, k ≤ n ∧ i = .int .i64 k ∧ l.take k = O.take k ∧ Below w1.heap.size w1 wr) (fun i _ => n - (intOf i).toNat)
      case atStart => exact ⟨0, by omega, rfl, by simp, Below.refl _ _⟩
      case round =>
        obtain ⟨k, hk, rfl, htk, hb⟩ := hrel
        have HB := Lib.hid (And.intro hb htk)
        by_cases hlt : k < n
        · have hkl : k < l.length := by omega
          have hkO : k < O.length := by omega
          obtain ⟨b, off, rfl, zb, hc⟩ := (H1.out.2.2.1.below hb).2 (by omega)
          obtain ⟨b2, off2, rfl, zb2, hc2⟩ := (H1.out.2.1.below hb).2 (by omega)
          obtain ⟨x, hx'⟩ : ∃ x, x = l[k] := ⟨_, rfl⟩
          obtain ⟨y, hy'⟩ : ∃ y, y = O[k] := ⟨_, rfl⟩
          obtain ⟨s0, s1, s2⟩ := occs_get hkl
          obtain ⟨t0, t1, t2⟩ := occs_get hkO
          rw [← hx'] at s0 s1 s2
          rw [← hy'] at t0 t1 t2
          have c0 := hc _ _ s0
          have c1 : wr.cell? ⟨b, off + k*3 + 1, none⟩ = _ := hc _ _ s1
          have c2 : wr.cell? ⟨b, off + k*3 + 2, none⟩ = _ := hc _ _ s2
          have d0 := hc2 _ _ t0
          have d1 : wr.cell? ⟨b2, off2 + k*3 + 1, none⟩ = _ := hc2 _ _ t1
          have d2 : wr.cell? ⟨b2, off2 + k*3 + 2, none⟩ = _ := hc2 _ _ t2
          have n1 : (0 : Int) ≤ (k : Int) := by omega
          have n2 : (k : Int) < (l.length : Int) := by omega
          have n3 : (k : Int) < (O.length : Int) := by omega
          have n4 : (k : Int) < (n : Int) := by omega
          have HX := Lib.hid (And.intro hx' hy')
          clear s0 s1 s2 t0 t1 t2 hc hc2 hx' hy' hb htk zb zb2
          by_cases hxy : x = y
          · subst hxy
            have hne : ∀ w, (binOp .neq 81 (.agg #[.int .i64 x.iss, .int .i64 x.frm, .int .i64 x.stp]) (.agg #[.int .i64 x.iss, .int .i64 x.frm, .int .i64 x.stp])).run Tryz.prog w = .ok (.bool false) w := fun w => by rw [rord_neq]; simp
            go_upto_region 8 with fail
            go_quiet (fail)
            go_wp2_with fail
            go_roundw
            case measure => simp [intOf]; omega
            case rel =>
              refine ⟨k + 1, by omega, by go_num, ?_, below_drewN HB.out.1 _⟩
              rw [List.take_succ_eq_append_getElem hkl, List.take_succ_eq_append_getElem hkO, HB.out.2, ← HX.out.1, ← HX.out.2]
          · have hne : ∀ w, (binOp .neq 81 (.agg #[.int .i64 x.iss, .int .i64 x.frm, .int .i64 x.stp]) (.agg #[.int .i64 y.iss, .int .i64 y.frm, .int .i64 y.stp])).run Tryz.prog w = .ok (.bool true) w := fun w => by rw [rord_neq]; simp [hxy]
            have HXY := Lib.hid hxy
            clear hxy
            go_upto_region 8 with fail
            go_quiet (fail)
            go_wp2_with fail
            go_ret2
            have hcp := cpl_at HB.out.2 hkO (by omega) (by rw [List.getElem?_eq_getElem hkl, List.getElem?_eq_getElem hkO, ← HX.out.1, ← HX.out.2]; intro h; injection h with h; exact HXY.out h)
            refine ⟨?_, H1.out.1.trans ((below_drewN HB.out.1 _).mono H1.out.1.size)⟩
            rw [auditR, if_neg (by rw [← H1.out.2.2.2.2]; simp), ← H1.out.2.2.2.1, hcp.1, if_neg hcp.2]; rfl
        · obtain rfl : k = n := by omega
          clear hb htk
          by_cases hne : l.length = O.length
          · have hne' : ((l.length : Int) != (O.length : Int)) = false := by simp; omega
            have HE := Lib.hid hne
            clear hne
            go_wp2_with fail
            go_ret2
            have hkk : k = O.length := by have := HE.out; omega
            have hlO : l = O := by
              have h5 := HB.out.2
              rw [hkk, List.take_length, show O.length = l.length from HE.out.symm, List.take_length] at h5
              exact h5
            refine ⟨?_, H1.out.1.trans (HB.out.1.mono H1.out.1.size)⟩
            rw [auditR, if_neg (by rw [← H1.out.2.2.2.2]; simp), ← H1.out.2.2.2.1, cpl_all (by rw [hlO]; simp), if_pos hlO.symm, hkk]; rfl
          · have hne' : ((l.length : Int) != (O.length : Int)) = true := by simp; omega
            have HE := Lib.hid hne
            clear hne
            go_wp2_with fail
            go_ret2
            refine ⟨?_, H1.out.1.trans (HB.out.1.mono H1.out.1.size)⟩
            have hOl : O ≠ l := fun e => HE.out (by rw [e])
            rw [auditR, if_neg (by rw [← H1.out.2.2.2.2]; simp), ← H1.out.2.2.2.1, if_neg hOl]
            have hcl : cpl O l = k := by
              rcases hn3 with h | h
              · have := HE.out
                exact (cpl_at HB.out.2 (by omega) (by omega) (by rw [List.getElem?_eq_none (by omega), List.getElem?_eq_getElem (by omega)]; simp)).1
              · rw [h]; exact cpl_all (by have h5 := HB.out.2; rw [h] at h5; rw [h5]; simp)
            rw [hcl]; rfl
  · have hne : (er != 0) = true := by simp [h0]
    have hLL : rOrdersL p days = [] := by unfold rOrdersL; rw [if_neg (by rw [← her]; exact h0)]
    have HK := Lib.hid (And.intro h0 (And.intro rd1.bel her))
    clear h0 rd1 h1 hL b1 her hLL
    go_wp2_with fail
    go_ret2
    refine ⟨?_, HK.out.2.1⟩
    rw [auditR, if_pos (by rw [← HK.out.2.2]; exact HK.out.1), ← HK.out.2.2]; rfl
end Go.Proofs.YtbgnkljjgfcngaaGreat
