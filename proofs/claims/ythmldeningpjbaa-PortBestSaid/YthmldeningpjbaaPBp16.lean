/- Maps joined, one after the other. -/
import Derived.Test.YthmldeningpjbaaPBp3
import Derived.Test.YthmldeningpjbaaPBp15
set_option linter.unusedVariables false
set_option linter.unusedSimpArgs false
namespace Go.Proofs.Ythmldeningpjbaa
open Go Go.RowKit Sp Pt
set_option linter.unusedVariables false

theorem mp_results {F : Func} {r : Nat} (hF : F.results = #[.cell r 59]) {W : World} {b : Nat} {m : Mp} (h : W.heap[b]? = some (.cells #[.int .i64 m.add, .int .i64 m.floor, .int .i64 m.most] 59 (0, 0))) (tmps : Array Value) (hr : tmps.getD r undef = .pointer (some ⟨b, 0, none⟩)) :
    (results F tmps).run Try.prog W = .ok (mpV m) W := by
  have g8 : tmps[r]?.getD undef = .pointer (some ⟨b, 0, none⟩) := by simpa using hr
  have c0 : W.cell? ⟨b, 0, none⟩ = some (.int .i64 m.add) := (cell_of_heap h 0).trans rfl
  have c1 : W.cell? ⟨b, 1, none⟩ = some (.int .i64 m.floor) := (cell_of_heap h 1).trans rfl
  have c2 : W.cell? ⟨b, 2, none⟩ = some (.int .i64 m.most) := (cell_of_heap h 2).trans rfl
  simp [results, hF, g8, asAddr, go_sem, c0, c1, c2]
theorem mp_results2 {F : Func} {r s : Nat} (hF : F.results = #[.cell r 59, .tmp s]) {W : World} {b : Nat} {m : Mp} (h : W.heap[b]? = some (.cells #[.int .i64 m.add, .int .i64 m.floor, .int .i64 m.most] 59 (0, 0))) (tmps : Array Value) (v : Value) (hr : tmps.getD r undef = .pointer (some ⟨b, 0, none⟩)) (hs : tmps.getD s undef = v) :
    (results F tmps).run Try.prog W = .ok (.tuple #[mpV m, v]) W := by
  have g8 : tmps[r]?.getD undef = .pointer (some ⟨b, 0, none⟩) := by simpa using hr
  have g9 : tmps[s]?.getD undef = v := by simpa using hs
  have c0 : W.cell? ⟨b, 0, none⟩ = some (.int .i64 m.add) := (cell_of_heap h 0).trans rfl
  have c1 : W.cell? ⟨b, 1, none⟩ = some (.int .i64 m.floor) := (cell_of_heap h 1).trans rfl
  have c2 : W.cell? ⟨b, 2, none⟩ = some (.int .i64 m.most) := (cell_of_heap h 2).trans rfl
  simp [results, hF, g8, g9, asAddr, go_sem, c0, c1, c2]
theorem st3_heap' {W : World} {vb : Nat} {u0 u1 u2 : Value} {t : TypeId} (h : W.heap[vb]? = some (.cells #[u0, u1, u2] t (0, 0))) (x y z : Value) : (((W.setCell ⟨vb, 0, none⟩ x).setCell ⟨vb, 1, none⟩ y).setCell ⟨vb, 2, none⟩ z).heap[vb]? = some (.cells #[x, y, z] t (0, 0)) :=
  heap_set (heap_set (heap_set h 0 x) 1 y) 2 z
theorem st3_below' {B : Nat} {w W : World} {vb : Nat} (h : Below B w W) (hv : B ≤ vb) (x y z : Value) : Below B w (((W.setCell ⟨vb, 0, none⟩ x).setCell ⟨vb, 1, none⟩ y).setCell ⟨vb, 2, none⟩ z) :=
  ((h.setCell hv x).setCell hv y).setCell hv z

/-- numbers that are far from the ends -/
def far (x : Int) : Prop := -1000000000000000000 ≤ x ∧ x ≤ 1000000000000000000
def farM (m : Mp) : Prop := far m.add ∧ far m.floor ∧ far m.most
theorem mright_far {m : Mp} (h : mright m = true) : farM m := by
  have := mright_iff.1 h
  simp only [NL, BIG, farM, far] at *
  omega

set_option maxRecDepth 100000 in
set_option maxHeartbeats 1000000 in
theorem join_any (a m : Mp) (b off c : Nat) (w : World) (hb : b < w.heap.size) (h0 : w.cell? ⟨b, off, none⟩ = some (.int .i64 m.add)) (h1 : w.cell? ⟨b, off + 1, none⟩ = some (.int .i64 m.floor)) (h2 : w.cell? ⟨b, off + 2, none⟩ = some (.int .i64 m.most)) (ha : farM a) (hm : farM m) :
    Calls Try.prog 79 #[mpV a, .slice (some ⟨b, off, none⟩) 1 c] w fun e w' => e = .returned (mpV (join1 a m)) ∧ Below w.heap.size w w' := by
  obtain ⟨⟨a1, a2⟩, ⟨a3, a4⟩, ⟨a5, a6⟩⟩ := ha
  obtain ⟨⟨m1, m2⟩, ⟨m3, m4⟩, ⟨m5, m6⟩⟩ := hm
  go_enter Try.func79, Try.ntmps79
  go_upto_region 1 with fail
  obtain ⟨W, hW⟩ : ∃ W, W = (w.alloc (.cells #[.int .i64 a.add, .int .i64 a.floor, .int .i64 a.most] 59)).alloc (.cells #[.int .i64 0, .int .i64 0, .int .i64 0] 59) := ⟨_, rfl⟩
  have bW : Below w.heap.size w W := by rw [hW]; exact ((Below.refl _ _).alloc (Nat.le_refl _) _).alloc (by simp) _
  have ho : W.heap[w.heap.size]? = some (.cells #[.int .i64 a.add, .int .i64 a.floor, .int .i64 a.most] 59 (0, 0)) := by rw [hW]; exact heap_alloc' (heap_alloc_new _ _) _
  have hr : W.heap[w.heap.size + 1]? = some (.cells #[.int .i64 0, .int .i64 0, .int .i64 0] 59 (0, 0)) := by
    rw [hW]
    have := heap_alloc_new (w.alloc (.cells #[.int .i64 a.add, .int .i64 a.floor, .int .i64 a.most] 59)) (.cells #[.int .i64 0, .int .i64 0, .int .i64 0] 59)
    rwa [World.size_alloc] at this
  obtain ⟨ob, hob⟩ : ∃ ob, ob = w.heap.size := ⟨_, rfl⟩
  rw [← hW, ← hob]
  rw [← hob] at ho hr
  have d0 := (bW.cell (p := ⟨b, off, none⟩) hb).trans h0
  have d1 := (bW.cell (p := ⟨b, off + 1, none⟩) hb).trans h1
  have d2 := (bW.cell (p := ⟨b, off + 2, none⟩) hb).trans h2
  have hbW : b < W.heap.size ∧ b < ob := ⟨by have := bW.size; omega, by omega⟩
  have HB := Lib.hid (And.intro bW (And.intro hob hr))
  clear hW hob bW hr h0 h1 h2 hb
  go_wp2_with fail
  go_loopg [10] (1) (fun g i wr => ∃ k : Nat, g + k = 1 ∧ i = .int .i64 k ∧ Keep [ob] W wr ∧ wr.heap[ob]? = some (.cells (if k = 0 then #[.int .i64 a.add, .int .i64 a.floor, .int .i64 a.most] else #[.int .i64 (join1 a m).add, .int .i64 (join1 a m).floor, .int .i64 (join1 a m).most]) 59 (0, 0)))
  case atStart => exact ⟨0, rfl, rfl, Keep.refl _ _, by simpa using ho⟩
  case round =>
    obtain ⟨k, hk, rfl, hK, hh⟩ := hrel
    by_cases hk0 : k = 0
    · subst hk0
      rw [if_pos rfl] at hh
      have e0 := hK.cell d0 (by simp; omega)
      have e1 := hK.cell d1 (by simp; omega)
      have e2 := hK.cell d2 (by simp; omega)
      have f0 := (cell_of_heap hh 0).trans rfl
      have f1 := (cell_of_heap hh 1).trans rfl
      have f2 := (cell_of_heap hh 2).trans rfl
      have hbr : b < wr.heap.size := Nat.lt_of_lt_of_le hbW.1 hK.size
      have hor := heap_lt hh
      have u0 := frozen_of_heap hh 0
      have u1 := frozen_of_heap hh 1
      have u2 := frozen_of_heap hh 2
      have HK := Lib.hid (And.intro hK hh)
      clear hK hh d0 d1 d2 ho
      go_wp2_with fail
      all_goals
        go_roundg (gk - 1)
        case measure => omega
        case rel =>
          refine ⟨1, by omega, by go_num, (((HK.out.1.setCell (p := ⟨ob, 0, none⟩) (.inl (by simp)) _).setCell (p := ⟨ob, 1, none⟩) (.inl (by simp)) _).setCell (p := ⟨ob, 2, none⟩) (.inl (by simp)) _).alloc _, (heap_alloc' (st3_heap' HK.out.2 _ _ _) _).trans ?_⟩
          rw [if_neg (by decide)]
          clear HK HB e0 e1 e2 f0 f1 f2 u0 u1 u2
          simp only [join1, joinL, NL, Option.some.injEq, Obj.cells.injEq, Array.mk.injEq, List.cons.injEq, Value.int.injEq, true_and, and_true]
          try simp only [bne_eq_false_iff_eq, bne_iff_ne, ne_eq] at *
          by_cases q : m.most - a.add < a.most
          all_goals by_cases q2 : a.most ≤ m.most - a.add
          all_goals first | simp only [if_pos q] at * | simp only [if_neg q] at * | skip
          all_goals first | simp only [if_pos q2] at * | simp only [if_neg q2] at * | skip
          all_goals first
            | omega
            | (refine ⟨?_, ?_, ?_⟩ <;> (repeat' split) <;> omega)
            | (refine ⟨?_, ?_⟩ <;> (repeat' split) <;> omega)
            | ((repeat' split) <;> omega)
    · obtain rfl : k = 1 := by omega
      rw [if_neg (by decide)] at hh
      have f0 := (cell_of_heap hh 0).trans rfl
      have f1 := (cell_of_heap hh 1).trans rfl
      have f2 := (cell_of_heap hh 2).trans rfl
      have hR : wr.heap[ob + 1]? = some (.cells #[.int .i64 0, .int .i64 0, .int .i64 0] 59 (0, 0)) := (hK.block _ (heap_lt HB.out.2.2) (by simp)).trans HB.out.2.2
      have hor := heap_lt hh
      have u0 := frozen_of_heap hR 0
      have u1 := frozen_of_heap hR 1
      have u2 := frozen_of_heap hR 2
      have g0 := (cell_of_heap hR 0).trans rfl
      have g1 := (cell_of_heap hR 1).trans rfl
      have g2 := (cell_of_heap hR 2).trans rfl
      have hrr := heap_lt hR
      have HK := Lib.hid (And.intro hK hR)
      clear hK hh hR d0 d1 d2 ho
      go_wp2_with fail
      refine bodyPost_ret (mp_results (r := 4) (m := join1 a m) rfl (st3_heap' HK.out.2 _ _ _) _ rfl) rfl ⟨rfl, ?_⟩
      exact st3_below' (HB.out.1.trans ((HK.out.1.below (B := w.heap.size) HB.out.1.size (by simp; have := HB.out.2.1; omega)))) (by have := HB.out.2.1; omega) _ _ _
end Go.Proofs.Ythmldeningpjbaa
/- Maps joined, whatever they are: something comes back. -/
namespace Go.Proofs.Ythmldeningpjbaa
open Go Go.RowKit Sp Pt
set_option linter.unusedVariables false

set_option maxRecDepth 100000 in
set_option maxHeartbeats 1000000 in
theorem join_tot (a m : Mp) (b off c : Nat) (w : World) (hb : b < w.heap.size) (h0 : w.cell? ⟨b, off, none⟩ = some (.int .i64 m.add)) (h1 : w.cell? ⟨b, off + 1, none⟩ = some (.int .i64 m.floor)) (h2 : w.cell? ⟨b, off + 2, none⟩ = some (.int .i64 m.most)) :
    Calls Try.prog 79 #[mpV a, .slice (some ⟨b, off, none⟩) 1 c] w fun e w' => ∃ y : Mp, e = .returned (mpV y) ∧ Below w.heap.size w w' := by
  go_enter Try.func79, Try.ntmps79
  go_upto_region 1 with fail
  obtain ⟨W, hW⟩ : ∃ W, W = (w.alloc (.cells #[.int .i64 a.add, .int .i64 a.floor, .int .i64 a.most] 59)).alloc (.cells #[.int .i64 0, .int .i64 0, .int .i64 0] 59) := ⟨_, rfl⟩
  have bW : Below w.heap.size w W := by rw [hW]; exact ((Below.refl _ _).alloc (Nat.le_refl _) _).alloc (by simp) _
  have ho : W.heap[w.heap.size]? = some (.cells #[.int .i64 a.add, .int .i64 a.floor, .int .i64 a.most] 59 (0, 0)) := by rw [hW]; exact heap_alloc' (heap_alloc_new _ _) _
  have hr : W.heap[w.heap.size + 1]? = some (.cells #[.int .i64 0, .int .i64 0, .int .i64 0] 59 (0, 0)) := by
    rw [hW]
    have := heap_alloc_new (w.alloc (.cells #[.int .i64 a.add, .int .i64 a.floor, .int .i64 a.most] 59)) (.cells #[.int .i64 0, .int .i64 0, .int .i64 0] 59)
    rwa [World.size_alloc] at this
  obtain ⟨ob, hob⟩ : ∃ ob, ob = w.heap.size := ⟨_, rfl⟩
  rw [← hW, ← hob]
  rw [← hob] at ho hr
  have d0 := (bW.cell (p := ⟨b, off, none⟩) hb).trans h0
  have d1 := (bW.cell (p := ⟨b, off + 1, none⟩) hb).trans h1
  have d2 := (bW.cell (p := ⟨b, off + 2, none⟩) hb).trans h2
  have hbW : b < W.heap.size ∧ b < ob := ⟨by have := bW.size; omega, by omega⟩
  have HB := Lib.hid (And.intro bW (And.intro hob hr))
  clear hW hob bW hr h0 h1 h2 hb
  go_wp2_with fail
  go_loopg [10] (1) (fun g i wr => ∃ k : Nat, g + k = 1 ∧ i = .int .i64 k ∧ Keep [ob] W wr ∧ (k = 0 → wr.heap[ob]? = some (.cells #[.int .i64 a.add, .int .i64 a.floor, .int .i64 a.most] 59 (0, 0))) ∧ ∃ y : Mp, wr.heap[ob]? = some (.cells #[.int .i64 y.add, .int .i64 y.floor, .int .i64 y.most] 59 (0, 0)))
  case atStart => exact ⟨0, rfl, rfl, Keep.refl _ _, fun _ => ho, a, ho⟩
  case round =>
    obtain ⟨k, hk, rfl, hK, hh0, y, hh⟩ := hrel
    by_cases hk0 : k = 0
    · subst hk0
      replace hh := hh0 rfl
      clear hh0
      have e0 := hK.cell d0 (by simp; omega)
      have e1 := hK.cell d1 (by simp; omega)
      have e2 := hK.cell d2 (by simp; omega)
      have f0 := (cell_of_heap hh 0).trans rfl
      have f1 := (cell_of_heap hh 1).trans rfl
      have f2 := (cell_of_heap hh 2).trans rfl
      have hbr : b < wr.heap.size := Nat.lt_of_lt_of_le hbW.1 hK.size
      have hor := heap_lt hh
      have u0 := frozen_of_heap hh 0
      have u1 := frozen_of_heap hh 1
      have u2 := frozen_of_heap hh 2
      have HK := Lib.hid (And.intro hK hh)
      clear hK hh d0 d1 d2 ho
      go_wp2_with fail
      all_goals
        go_roundg (gk - 1)
        case measure => omega
        case rel =>
          refine ⟨1, by omega, by go_num, (((HK.out.1.setCell (p := ⟨ob, 0, none⟩) (.inl (by simp)) _).setCell (p := ⟨ob, 1, none⟩) (.inl (by simp)) _).setCell (p := ⟨ob, 2, none⟩) (.inl (by simp)) _).alloc _, fun h => absurd h (by decide), ?_⟩
          exact ⟨⟨_, _, _⟩, (heap_alloc' (st3_heap' HK.out.2 _ _ _) _)⟩
    · obtain rfl : k = 1 := by omega
      clear hh0
      have f0 := (cell_of_heap hh 0).trans rfl
      have f1 := (cell_of_heap hh 1).trans rfl
      have f2 := (cell_of_heap hh 2).trans rfl
      have hR : wr.heap[ob + 1]? = some (.cells #[.int .i64 0, .int .i64 0, .int .i64 0] 59 (0, 0)) := (hK.block _ (heap_lt HB.out.2.2) (by simp)).trans HB.out.2.2
      have hor := heap_lt hh
      have u0 := frozen_of_heap hR 0
      have u1 := frozen_of_heap hR 1
      have u2 := frozen_of_heap hR 2
      have g0 := (cell_of_heap hR 0).trans rfl
      have g1 := (cell_of_heap hR 1).trans rfl
      have g2 := (cell_of_heap hR 2).trans rfl
      have hrr := heap_lt hR
      have HK := Lib.hid (And.intro hK hR)
      clear hK hh hR d0 d1 d2 ho
      go_wp2_with fail
      refine bodyPost_ret (mp_results (r := 4) (m := y) rfl (st3_heap' HK.out.2 _ _ _) _ rfl) rfl ⟨y, rfl, ?_⟩
      exact st3_below' (HB.out.1.trans ((HK.out.1.below (B := w.heap.size) HB.out.1.size (by simp; have := HB.out.2.1; omega)))) (by have := HB.out.2.1; omega) _ _ _

theorem join_all (a m : Mp) (b off c : Nat) (w : World) (hb : b < w.heap.size) (h0 : w.cell? ⟨b, off, none⟩ = some (.int .i64 m.add)) (h1 : w.cell? ⟨b, off + 1, none⟩ = some (.int .i64 m.floor)) (h2 : w.cell? ⟨b, off + 2, none⟩ = some (.int .i64 m.most)) :
    Calls Try.prog 79 #[mpV a, .slice (some ⟨b, off, none⟩) 1 c] w fun e w' => ∃ y : Mp, (farM a → farM m → y = join1 a m) ∧ e = .returned (mpV y) ∧ Below w.heap.size w w' := by
  by_cases hf : farM a ∧ farM m
  · exact (join_any a m b off c w hb h0 h1 h2 hf.1 hf.2).mono fun e w' h => ⟨_, fun _ _ => rfl, h.1, h.2⟩
  · exact (join_tot a m b off c w hb h0 h1 h2).mono fun e w' ⟨y, h⟩ => ⟨y, fun h1 h2 => absurd ⟨h1, h2⟩ hf, h.1, h.2⟩
end Go.Proofs.Ythmldeningpjbaa
/- The map of a plan for a channel: maps, fold (printed by wip/tools/ptfoldw.py) -/
namespace Go.Proofs.Ythmldeningpjbaa
open Go Go.RowKit Go.Shelf Go.Proofs Sp Pt
attribute [local go_sem] Oper.semAt_some
set_option linter.unusedVariables false
set_option linter.unusedSimpArgs false

set_option linter.unusedVariables false
def MqV (W0 : World) (kb xb wb pb bc oc n cc k : Nat) (gr fr cr : Int) (s : Nat) : Nat → Value → Prop
  | 0, v => v = .pointer (some ⟨wb, 0, none⟩)
  | 1, v => v = .pointer (some ⟨wb, 0, none⟩)
  | 2, v => v = .pointer (some ⟨wb, 0, none⟩)
  | 3, v => v = .pointer (some ⟨pb, 0, none⟩)
  | 4, v => v = .pointer (some ⟨pb, 0, none⟩)
  | 5, v => v = .pointer (some ⟨pb, 0, none⟩)
  | 6, v => v = .slice (some ⟨bc, oc, none⟩) n cc
  | 7, v => v = .int .i64 k
  | 8, v => v = .pointer (some ⟨bc, oc + k * 3, none⟩)
  | 9, v => v = .agg #[.int .i64 gr, .int .i64 fr, .int .i64 cr]
  | 10, v => v = .pointer (some ⟨s, 0, none⟩)
  | _, _ => True
def MqW (W0 : World) (kb xb wb pb bc oc n cc k : Nat) (gr fr cr : Int) (s : Nat) (l : Nat → Bool) (w : World) : Prop := Keep [] W0 w ∧ (l 10 = true → w.heap[s]? = some (.cells (if l 11 then #[.int .i64 gr, .int .i64 fr, .int .i64 cr] else #[.int .i64 0, .int .i64 0, .int .i64 0]) 144 (0, 0)) ∧ W0.heap.size ≤ s)

set_option maxRecDepth 100000 in
set_option maxHeartbeats 4000000 in
theorem maps_any {c : WC} {w : World} {k : Nat} (hE : ∃ v u, WcE c w v u) (hk : k < c.p.chs.length) (hcn : c.p.chs.length ≤ 1000) :
    Calls Try.prog 120 #[.pointer (some ⟨c.wb, 0, none⟩), .int .i64 k] w fun e w' => ∃ kb xb yb, e = .returned (.func (.func 137) #[] #[.pointer (some ⟨kb, 0, none⟩), .pointer (some ⟨xb, 0, none⟩), .pointer (some ⟨yb, 0, none⟩)]) ∧
      w'.heap[kb]? = some (.cells #[.pointer (some ⟨c.wb, 0, none⟩)] 145 (0, 0)) ∧ w'.heap[xb]? = some (.cells #[.int .i64 k] 3 (0, 0)) ∧ w'.heap[yb]? = some (.cells #[.int .i64 (ch c.p k).grow, .int .i64 (ch c.p k).frost, .int .i64 (ch c.p k).clear] 144 (0, 0)) ∧ Below w.heap.size w w' := by
  obtain ⟨v, u, E⟩ := hE
  obtain ⟨W, hW⟩ : ∃ W, W = (w.alloc (.cells #[.pointer (some ⟨c.wb, 0, none⟩)] 145)).alloc (.cells #[.int .i64 k] 3) := ⟨_, rfl⟩
  obtain ⟨kb, hkb⟩ : ∃ b, b = w.heap.size := ⟨_, rfl⟩
  obtain ⟨xb, hxb⟩ : ∃ b, b = w.heap.size + 1 := ⟨_, rfl⟩
  have b0 : Below w.heap.size w W := by rw [hW]; exact ((Below.refl _ _).alloc (Nat.le_refl _) _).alloc (by simp) _
  have h1 : W.heap[kb]? = some (.cells #[.pointer (some ⟨c.wb, 0, none⟩)] 145 (0, 0)) := by rw [hW, hkb]; exact heap_alloc' (heap_alloc_new _ _) _
  have h2 : W.heap[xb]? = some (.cells #[.int .i64 k] 3 (0, 0)) := by
    rw [hW, hxb]
    have := heap_alloc_new (w.alloc (.cells #[.pointer (some ⟨c.wb, 0, none⟩)] 145)) (.cells #[.int .i64 k] 3)
    rwa [World.size_alloc] at this
  have E1 := E.below b0
  obtain ⟨bc, oc, eAc, hbc, q4, q5, q6⟩ := chAt E1.PB hk
  obtain ⟨q1, _, _, _, q2, _, _, _, _, z1, z2, _⟩ := E1.cells
  rw [eAc] at q2
  have q0 : W.cell? ⟨kb, 0, none⟩ = some (.pointer (some ⟨c.wb, 0, none⟩)) := (cell_of_heap h1 0).trans rfl
  have q3 : W.cell? ⟨xb, 0, none⟩ = some (.int .i64 k) := (cell_of_heap h2 0).trans rfl
  obtain ⟨gr, hgr⟩ : ∃ x, x = (ch c.p k).grow := ⟨_, rfl⟩
  obtain ⟨fr, hfr⟩ : ∃ x, x = (ch c.p k).frost := ⟨_, rfl⟩
  obtain ⟨cr, hcr⟩ : ∃ x, x = (ch c.p k).clear := ⟨_, rfl⟩
  rw [← hgr] at q4
  rw [← hfr] at q5
  rw [← hcr] at q6
  have k1 : (0 : Int) ≤ (k : Int) := by omega
  have k2 : (k : Int) < (c.p.chs.length : Int) := by omega
  have zk := heap_lt h1
  have zx := heap_lt h2
  have zc := World.block_lt_of_cell? _ _ q4
  have H := Lib.hid (And.intro b0 (And.intro h1 (And.intro h2 (And.intro hgr (And.intro hfr hcr)))))
  clear b0 h1 h2 E E1 eAc hbc hgr hfr hcr
  go_enter Try.func120, Try.ntmps120
  go_upto_region 1 with fail
  rw [← hW, ← hxb, ← hkb]
  clear hW hxb hkb
  refine wp_region_steps (σ := Nat) (by kernel_rfl) (by kernel_rfl) (fun sg jx vx _ => MqV W kb xb c.wb c.pb bc oc c.p.chs.length c.cc k gr fr cr sg jx vx) (fun sg ly wx => MqW W kb xb c.wb c.pb bc oc c.p.chs.length c.cc k gr fr cr sg ly wx) 0 ?_ ?_ ?_
  · exact ⟨(Keep.refl _ _).drew, fun h => absurd h (by simp)⟩
  · simp only [AllFrom, Nat.zero_add, Nat.reduceAdd]
    refine ⟨?_, ?_, ?_, ?_, ?_, ?_, ?_, ?_, ?_, ?_, ?_, ?_, trivial⟩
    · refine step_pure fun sg ly a wr hl hd hW hF => ?_
      have et2 := hF.old 2 (by kernel_rfl)
      simp [Act.eval] at et2
      have c0 := hW.1.cell q0 (by simp)
      refine ⟨?_, _, by go_simp, rfl⟩
      have hW' := hW
      unfold MqW at hW' ⊢
      simpa [upd] using hW'
    · refine step_pure fun sg ly a wr hl hd hW hF => ?_
      simp [Region.binds] at hd
      have et6 := hF.new 0 6 (by simp [hd]) rfl
      simp [MqV, Act.eval] at et6
      refine ⟨?_, .pointer (some ⟨c.wb, 0, none⟩), by go_simp, rfl⟩
      have hW' := hW
      unfold MqW at hW' ⊢
      simpa [upd] using hW'
    · refine step_pure fun sg ly a wr hl hd hW hF => ?_
      simp [Region.binds] at hd
      have et7 := hF.new 1 7 (by simp [hd]) rfl
      simp [MqV, Act.eval] at et7
      refine ⟨?_, .pointer (some ⟨c.wb, 0, none⟩), by go_simp, rfl⟩
      have hW' := hW
      unfold MqW at hW' ⊢
      simpa [upd] using hW'
    · refine step_pure fun sg ly a wr hl hd hW hF => ?_
      simp [Region.binds] at hd
      have et8 := hF.new 2 8 (by simp [hd]) rfl
      simp [MqV, Act.eval] at et8
      have c0 := hW.1.cell q1 (by simp)
      refine ⟨?_, _, by go_simp, rfl⟩
      have hW' := hW
      unfold MqW at hW' ⊢
      simpa [upd] using hW'
    · refine step_pure fun sg ly a wr hl hd hW hF => ?_
      simp [Region.binds] at hd
      have et9 := hF.new 3 9 (by simp [hd]) rfl
      simp [MqV, Act.eval] at et9
      refine ⟨?_, .pointer (some ⟨c.pb, 0, none⟩), by go_simp, rfl⟩
      have hW' := hW
      unfold MqW at hW' ⊢
      simpa [upd] using hW'
    · refine step_pure fun sg ly a wr hl hd hW hF => ?_
      simp [Region.binds] at hd
      have et10 := hF.new 4 10 (by simp [hd]) rfl
      simp [MqV, Act.eval] at et10
      refine ⟨?_, .pointer (some ⟨c.pb, 0, none⟩), by go_simp, rfl⟩
      have hW' := hW
      unfold MqW at hW' ⊢
      simpa [upd] using hW'
    · refine step_pure fun sg ly a wr hl hd hW hF => ?_
      simp [Region.binds] at hd
      have et11 := hF.new 5 11 (by simp [hd]) rfl
      simp [MqV, Act.eval] at et11
      have c0 := hW.1.cell q2 (by simp)
      refine ⟨?_, _, by go_simp, rfl⟩
      have hW' := hW
      unfold MqW at hW' ⊢
      simpa [upd] using hW'
    · refine step_pure fun sg ly a wr hl hd hW hF => ?_
      have et3 := hF.old 3 (by kernel_rfl)
      simp [Act.eval] at et3
      have c0 := hW.1.cell q3 (by simp)
      refine ⟨?_, _, by go_simp, rfl⟩
      have hW' := hW
      unfold MqW at hW' ⊢
      simpa [upd] using hW'
    · refine step_pure fun sg ly a wr hl hd hW hF => ?_
      simp [Region.binds] at hd
      have et12 := hF.new 6 12 (by simp [hd]) rfl
      simp [MqV, Act.eval] at et12
      have et13 := hF.new 7 13 (by simp [hd]) rfl
      simp [MqV, Act.eval] at et13
      refine ⟨?_, .pointer (some ⟨bc, oc + k * 3, none⟩), by go_simp, rfl⟩
      have hW' := hW
      unfold MqW at hW' ⊢
      simpa [upd] using hW'
    · refine step_pure fun sg ly a wr hl hd hW hF => ?_
      simp [Region.binds] at hd
      have et14 := hF.new 8 14 (by simp [hd]) rfl
      simp [MqV, Act.eval] at et14
      have c0 := hW.1.cell q4 (by simp)
      have c1 := hW.1.cell q5 (by simp)
      have c2 := hW.1.cell q6 (by simp)
      refine ⟨?_, _, by go_simp, rfl⟩
      have hW' := hW
      unfold MqW at hW' ⊢
      simpa [upd] using hW'
    · refine step_run fun sg ly a wr hl hd hW hF => ?_
      have n11 := hF.notYet 10 11 hl (by kernel_rfl)
      refine ⟨_, wr.alloc (.cells #[.int .i64 0, .int .i64 0, .int .i64 0] 144), wr.heap.size, by go_simp, ⟨hW.1.alloc _, fun _ => ⟨by rw [if_neg (by simp [upd, n11])]; exact heap_alloc_new _ _, hW.1.size⟩⟩, rfl, ?_⟩
      intro i u hi h
      have i2 : i ≠ 10 := by rintro rfl; rw [hl] at hi; cases hi
      unfold MqV at h ⊢
      split at h <;> first | exact h | exact absurd rfl i2
    · refine step_store rfl fun sg ly a wr hl hd hW hF => ?_
      simp [Region.binds] at hd
      have et5 := hF.new 10 5 (by simp [hd]) rfl
      simp [MqV, Act.eval] at et5
      have et15 := hF.new 9 15 (by simp [hd]) rfl
      simp [MqV, Act.eval] at et15
      have y10 : ly 10 = true := by simp [hd]
      obtain ⟨hh, hs⟩ := hW.2 y10
      rw [if_neg (by simp [hl])] at hh
      have c0 := (cell_of_heap hh 0).trans rfl
      have c1 := (cell_of_heap hh 1).trans rfl
      have c2 := (cell_of_heap hh 2).trans rfl
      have f0 := frozen_of_heap hh 0
      have f1 := frozen_of_heap hh 1
      have f2 := frozen_of_heap hh 2
      refine ⟨((wr.setCell ⟨sg, 0, none⟩ (.int .i64 gr)).setCell ⟨sg, 1, none⟩ (.int .i64 fr)).setCell ⟨sg, 2, none⟩ (.int .i64 cr), sg, .skip, by go_simp, .inl rfl, ⟨((hW.1.setCell (.inr hs) _).setCell (.inr hs) _).setCell (.inr hs) _, fun _ => ⟨by rw [if_pos (by simp [upd])]; exact heap_set (heap_set (heap_set hh 0 _) 1 _) 2 _, hs⟩⟩, fun _ _ _ h => h⟩
  intro sg a w3 hWW hF
  have e5 := hF.new 10 5 (by decide) rfl
  obtain ⟨f3, hf3, rfl⟩ := hF.lit
  rw [← hf3] at e5
  simp only [MqV] at e5
  obtain ⟨kp, o1⟩ := hWW
  obtain ⟨o1, o2⟩ := o1 (by simp)
  rw [if_pos (by simp)] at o1
  have HF := Lib.hid (And.intro kp (And.intro o1 o2))
  clear hf3 hF kp o1 o2 q0 q1 q2 q3 q4 q5 q6 zk zx zc z1 z2
  simp only [List.filterMap, List.foldl, List.setIfInBounds_toArray, List.set_cons_succ, List.set_cons_zero, e5]
  clear e5
  go_wp2_with fail
  go_ret
  refine ⟨kb, xb, sg, rfl, (HF.out.1.block _ (heap_lt H.out.2.1) (by simp)).trans H.out.2.1, (HF.out.1.block _ (heap_lt H.out.2.2.1) (by simp)).trans H.out.2.2.1, ?_, H.out.1.trans (HF.out.1.below H.out.1.size (by simp))⟩
  rw [← H.out.2.2.2.1, ← H.out.2.2.2.2.1, ← H.out.2.2.2.2.2]
  exact HF.out.2.1

theorem own_cells {β : Type} (b : Nat) (f : β → Obj) (hf : ∀ s, (f s).isCells = true) : Go.Own (fun s W => W.heap[b]? = some (f s)) := fun s X Y row hs hg hrow =>
  (hg.block b (heap_lt hs) (fun e => by obtain ⟨o, ho, hc⟩ := hrow b e.symm; rw [hs] at ho; cases ho; rw [hf] at hc; cases hc)).trans hs
theorem own_some (b : Nat) (G : List Mp → Mp → Prop) : Go.Own (fun pre W => ∃ a : Mp, W.heap[b]? = some (.cells #[.int .i64 a.add, .int .i64 a.floor, .int .i64 a.most] 59 (0, 0)) ∧ G pre a) := by
  rintro s X Y row ⟨a, ha, hG⟩ hg hrow
  exact ⟨a, (hg.block b (heap_lt ha) (fun e => by obtain ⟨o, ho, hc⟩ := hrow b e.symm; rw [ha] at ho; cases ho; cases hc)).trans ha, hG⟩
theorem KpF.alloc {free : Nat → Obj → Prop} (W : World) (o : Obj) : KpF free W (W.alloc o) := ⟨by simp, fun _ _ hk _ _ => heap_alloc' hk _⟩
theorem KpF.putObj {free : Nat → Obj → Prop} {W : World} {l : Nat} {o : Obj} (hl : W.heap[l]? = some o) (ho : o.isCells = false) (o' : Obj) : KpF free W (W.putObj l o') :=
  ⟨by simp, fun k ob hk hc _ => (World.putObj_heap_other (fun e => by subst e; rw [hl] at hk; cases hk; rw [ho] at hc; cases hc)).trans hk⟩
theorem KpF.of_below {free : Nat → Obj → Prop} {W W' : World} (h : Below W.heap.size W W') : KpF free W W' := ⟨h.size, fun k o hk _ _ => (h.block k (heap_lt hk)).trans hk⟩
abbrev mpA (m : Mp) : Array Value := #[.int .i64 m.add, .int .i64 m.floor, .int .i64 m.most]
theorem jm_far {k : Nat} {m : Mp} (h : Jm k m) (hk : k ≤ 1000) : farM m := by
  obtain ⟨⟨a, a'⟩, ⟨b, b'⟩, d, e, f⟩ := h
  simp only [farM, far, NL] at *
  omega
theorem gm_far {m : Mp} (h : Gm m) : farM m := by
  obtain ⟨⟨a, a'⟩, ⟨b, b'⟩, d, e⟩ := h
  simp only [farM, far, NL] at *
  omega


set_option maxRecDepth 100000 in
set_option maxHeartbeats 4000000 in
theorem fold_any {c : WC} {w : World} {k : Nat} (hE : ∃ v u, WcE c w v u) (hlt : c.wb < w.heap.size ∧ c.pb < w.heap.size ∧ c.lb < w.heap.size) (v : Val c.p c.l) (hk : k < c.p.chs.length) :
    Calls Try.prog 68 #[.pointer (some ⟨c.wb, 0, none⟩), .int .i64 k] w fun e w' => e = .returned (mpV (foldS c.p c.l k)) ∧ Below w.heap.size w w' := by
  obtain ⟨W, hW⟩ : ∃ W, W = (w.alloc (.cells #[.int .i64 0, .int .i64 0, .int .i64 0] 59)).alloc (.cells #[.int .i64 0, .int .i64 0, .int .i64 1000000000] 59) := ⟨_, rfl⟩
  obtain ⟨rb, hrb⟩ : ∃ b, b = w.heap.size := ⟨_, rfl⟩
  obtain ⟨ob, hob⟩ : ∃ b, b = w.heap.size + 1 := ⟨_, rfl⟩
  have b0 : Below w.heap.size w W := by rw [hW]; exact ((Below.refl _ _).alloc (Nat.le_refl _) _).alloc (by simp) _
  have h1 : W.heap[rb]? = some (.cells #[.int .i64 0, .int .i64 0, .int .i64 0] 59 (0, 0)) := by rw [hW, hrb]; exact heap_alloc' (heap_alloc_new _ _) _
  have h2 : W.heap[ob]? = some (.cells (mpA id1) 59 (0, 0)) := by
    rw [hW, hob]
    have := heap_alloc_new (w.alloc (.cells #[.int .i64 0, .int .i64 0, .int .i64 0] 59)) (.cells (mpA id1) 59)
    rwa [World.size_alloc] at this
  have hD0 : c.D ≤ w.heap.size := by obtain ⟨_, _, E⟩ := hE; exact E.hD
  have hE1 : ∃ v u, WcE c W v u := by obtain ⟨v0, u0, E⟩ := hE; exact ⟨v0, u0, E.below b0⟩
  have hn := v.nc
  have km := maps_any hE1 hk (by omega)
  have H := Lib.hid (And.intro b0 (And.intro h1 (And.intro h2 (And.intro hE1 (And.intro hlt (And.intro v km))))))
  have hge : w.heap.size ≤ rb ∧ w.heap.size ≤ ob ∧ rb ≠ ob := by omega
  clear b0 h1 h2 hE hE1 v km hlt
  refine (callsIn_wide (n := 9)).1 ?_
  refine callsIn_of_wp_marks Try.func68 rfl trivial ?_ rfl
  simp only [Try.ntmps68, List.size_toArray, List.length_cons, List.length_nil, Nat.reduceAdd, Nat.reduceSub, Array.replicate_succ, Array.replicate_zero, List.push_toArray, List.append_toArray, List.nil_append, List.cons_append]
  gi_upto_region 2 with fail
  rw [← hW, ← hob, ← hrb]
  clear hW hob hrb
  gi_wp2_with (refine ⟨trivial, ?_⟩; gi_at_call 120; refine (callsIn_wide.2 H.out.2.2.2.2.2.2).mono ?_; rintro e w1 ⟨kb, xb, yb, rfl, g1, g2, g3, b1⟩; have H1 := Lib.hid (And.intro g1 (And.intro g2 (And.intro g3 b1))); clear g1 g2 g3 b1)
  have hbw : Below w.heap.size w w1 := H.out.1.trans (H1.out.2.2.2.mono H.out.1.size)
  have hr1 := (H1.out.2.2.2.block _ (heap_lt H.out.2.1)).trans H.out.2.1
  have ho1 := (H1.out.2.2.2.block _ (heap_lt H.out.2.2.1)).trans H.out.2.2.1
  have M1 : ME c w.heap.size kb xb yb k w1 := by
    obtain ⟨v0, u0, E⟩ := H.out.2.2.2.1
    have E1 := E.below H1.out.2.2.2
    refine ⟨⟨v0, u0, E1⟩, ⟨H.out.2.2.2.2.1.1, H.out.2.2.2.2.1.2.1, H.out.2.2.2.2.1.2.2, hD0⟩, ⟨Nat.le_refl _, fun _ _ _ _ h => h, H1.out.1, H1.out.2.1, H1.out.2.2.1⟩, by omega, by omega⟩
  have hz1 := H1.out.2.2.2.size
  have hobw : rb < w1.heap.size ∧ ob < w1.heap.size := ⟨heap_lt hr1, heap_lt ho1⟩
  have H2 := Lib.hid (And.intro hbw (And.intro hr1 ho1))
  have hbs := hbw.size
  have hsz : ∀ W : World, Below w.heap.size w W → w.heap.size ≤ W.heap.size := fun W h => h.size
  refine wpIn_rangeFunc_ownH rfl (by omega) (gf := 137) (lb := #[.pointer (some ⟨kb, 0, none⟩), .pointer (some ⟨xb, 0, none⟩), .pointer (some ⟨yb, 0, none⟩)]) rfl trivial (enters_of Try.func137 (by kernel_rfl) rfl)
    (maps1_stops c w.heap.size kb xb yb k w1 M1 hbs H.out.2.2.2.2.2.1 _ (by omega))
    (fun h h' => h.trans h') (fun W l o o' _ hl ho _ => KpF.putObj hl ho o') (Below.refl _ _) (fun _ => rfl)
    (fun pre W => ((∃ a : Mp, W.heap[ob]? = some (.cells (mpA a) 59 (0, 0)) ∧ ((∀ m ∈ pre, Gm m) → pre.length ≤ 600 → a = pre.foldl join1 id1)) ∧ W.heap[rb]? = some (.cells #[.int .i64 0, .int .i64 0, .int .i64 0] 59 (0, 0))) ∧ Below w.heap.size w W)
    (fun _ _ _ => False)
    (OwnFrom.and (OwnFrom.and (Go.Own.from (own_some ob _) _) (Go.Own.from (own_cells rb (fun _ : List Mp => .cells #[.int .i64 0, .int .i64 0, .int .i64 0] 59 (0, 0)) (fun _ => rfl)) _)) (ownFrom_below (Nat.le_refl _) hbs))
    (fun _ _ _ _ _ hs _ _ => hs)
    ⟨⟨⟨id1, ho1, fun _ _ => rfl⟩, hr1⟩, hbw⟩
    (fun x a' W => ∃ Bx, w.heap.size ≤ Bx ∧ W.heap[Bx]? = some (.cells (mpA x) 59 (0, 0)) ∧
      a' = { tmps := #[.pointer (some ⟨c.wb, 0, none⟩), .int .i64 k, undef, undef, .pointer (some ⟨rb, 0, none⟩), .pointer (some ⟨ob, 0, none⟩), .pointer (some ⟨Bx, 0, none⟩), .agg #[.int .i64 0, .int .i64 0, .int .i64 1000000000], .pointer (some ⟨c.wb, 0, none⟩), .int .i64 k, .func (.func 137) #[] #[.pointer (some ⟨kb, 0, none⟩), .pointer (some ⟨xb, 0, none⟩), .pointer (some ⟨yb, 0, none⟩)], mpV x, undef, undef, undef, undef, undef], defers := [] })
    (fun x a' s X Y row hs hg hrow => by
      obtain ⟨Bx, h1, h2, h3⟩ := hs
      refine ⟨Bx, h1, (hg.block Bx (heap_lt h2) (fun e => ?_)).trans h2, h3⟩
      obtain ⟨_, o, ho, hc⟩ := hrow Bx e.symm
      rw [h2] at ho; cases ho; cases hc)
    ?assign ?body ?done ?stop
  case assign =>
    rintro l pre x W K ⟨⟨⟨m0, ho, hG⟩, hr⟩, hB⟩ hK
    simp only [mpV]
    gi_wp2
    exact hK _ _ ((KeepsOthers.alloc _ _).from _) (KpF.alloc _ _) ⟨⟨⟨m0, heap_alloc' ho _, hG⟩, heap_alloc' hr _⟩, hB.alloc hB.size _⟩ ⟨W.heap.size, hsz W hB, heap_alloc_new W _, rfl⟩
  case body =>
    rintro l pre x a' W hlw ⟨r, hr'⟩ ⟨⟨⟨m0, ho, hG⟩, hr⟩, hB⟩ ⟨Bx, hBx, bX, rfl⟩ hlt
    have o0 := (cell_of_heap ho 0).trans rfl
    have o1 := (cell_of_heap ho 1).trans rfl
    have o2 := (cell_of_heap ho 2).trans rfl
    have x0 := (cell_of_heap bX 0).trans rfl
    have x1 := (cell_of_heap bX 1).trans rfl
    have x2 := (cell_of_heap bX 2).trans rfl
    have zo := heap_lt ho
    have zx := heap_lt bX
    have hA := Lib.hid (And.intro ho (And.intro hG (And.intro hr (And.intro hB bX))))
    have kj := join_all m0 x W.heap.size 0 1 (W.alloc (.cells (mpA x) 59)) (by simp) ((cell_of_heap (heap_alloc_new W (.cells (mpA x) 59)) 0).trans rfl) ((cell_of_heap (heap_alloc_new W (.cells (mpA x) 59)) 1).trans rfl) ((cell_of_heap (heap_alloc_new W (.cells (mpA x) 59)) 2).trans rfl)
    have HJ := Lib.hid kj
    clear ho hG hr hB bX kj
    gi_wp2_with (refine ⟨trivial, ?_⟩; gi_at_call 79; refine (CallsIn.inRound l (callsIn_wide.2 HJ.out)).mono ?_; rintro e w2 ⟨y, hy, rfl, b2⟩; have ho2 := (b2.block ob (by simp; omega)).trans (heap_alloc' hA.out.1 _); have p0 := frozen_of_heap ho2 0; have p1 := frozen_of_heap ho2 1; have p2 := frozen_of_heap ho2 2; have zo2 := heap_lt ho2; have c0 := (cell_of_heap ho2 0).trans rfl; have c1 := (cell_of_heap ho2 1).trans rfl; have c2 := (cell_of_heap ho2 2).trans rfl; have HB2 := Lib.hid (And.intro b2 (And.intro ho2 hy)); clear b2 ho2 hy)
    obtain ⟨b2, ho2, hy⟩ := HB2.out
    obtain ⟨ho, hG, hr, hB, bX⟩ := hA.out
    have bW : Below W.heap.size W w2 := ((Below.refl _ _).alloc (Nat.le_refl _) _).trans (b2.mono (by simp))
    have hr2 := (bW.block rb (heap_lt hr)).trans hr
    refine ⟨?_, ?_, ⟨⟨y, st3_heap' ho2 _ _ _, fun h1 h2 => ?_⟩, ?_⟩, ?_⟩
    · exact (((KeepsOthers.mk bW.size fun i o hi _ => (bW.block i (heap_lt hi)).trans hi).trans (KeepsOthers.setCell _ _ _)).trans ((KeepsOthers.setCell _ _ _).trans (KeepsOthers.setCell _ _ _))).from _
    · refine ⟨by simpa using bW.size, fun i o hi hc hf => ?_⟩
      have hio : i ≠ ob := fun e => hf (by subst e; rw [ho] at hi; cases hi; exact ⟨hge.2.1, _, _, rfl⟩)
      exact heap_set_ne (heap_set_ne (heap_set_ne ((bW.block i (heap_lt hi)).trans hi) (fun e => hio e) _) (fun e => hio e) _) (fun e => hio e) _
    · rw [List.foldl_append]
      have hpre : ∀ m ∈ pre, Gm m := fun m hm => h1 m (by simp [hm])
      have hl : pre.length ≤ 600 := by simp at h2; omega
      have e := hG hpre hl
      rw [hy ?_ (gm_far (h1 x (by simp))), e]; rfl
      rw [e]
      exact jm_far (fold_jm hpre id_jm (by omega)) (by omega)
    · exact heap_set_ne (heap_set_ne (heap_set_ne hr2 (by simp; omega) _) (by simp; omega) _) (by simp; omega) _
    · exact (((hB.trans (bW.mono hB.size)).setCell hge.2.1 _).setCell hge.2.1 _).setCell hge.2.1 _
  case done =>
    rintro D ys W hD2 rfl ⟨⟨⟨m0, ho, hG⟩, hr⟩, hB⟩ hK
    have e := hG (mapsS_gm H.out.2.2.2.2.2.1 (by omega) (by omega)) (by have := mapsS_length H.out.2.2.2.2.2.1 (k : Int); omega)
    have o0 := (cell_of_heap ho 0).trans rfl
    have o1 := (cell_of_heap ho 1).trans rfl
    have o2 := (cell_of_heap ho 2).trans rfl
    have r0 := (cell_of_heap hr 0).trans rfl
    have r1 := (cell_of_heap hr 1).trans rfl
    have r2 := (cell_of_heap hr 2).trans rfl
    have p0 := frozen_of_heap hr 0
    have p1 := frozen_of_heap hr 1
    have p2 := frozen_of_heap hr 2
    have zo := heap_lt ho
    have zr := heap_lt hr
    have hA := Lib.hid (And.intro ho (And.intro e (And.intro hr (And.intro hB hK))))
    clear ho hG hr hB hK e
    gi_wp2
    obtain ⟨ho, e, hr, hB, hK⟩ := hA.out
    have hrD : D ≠ rb := fun q => by subst q; rw [hr] at hK; cases hK
    have hK2 : ((((W.setCell ⟨rb, 0, none⟩ (.int .i64 m0.add)).setCell ⟨rb, 1, none⟩ (.int .i64 m0.floor)).setCell ⟨rb, 2, none⟩ (.int .i64 m0.most)).heap[D]?) = some (.deferred (some [])) :=
      heap_set_ne (heap_set_ne (heap_set_ne hK (fun q => hrD q) _) (fun q => hrD q) _) (fun q => hrD q) _
    refine ⟨by simp, .inl ⟨_, _, rfl, run_takeDeferred hK2, ?_⟩⟩
    refine ⟨_, mp_results (r := 4) rfl (W := _) (b := rb) (m := m0) ((World.putObj_heap_other (fun q => hrD q.symm)).trans (st3_heap' hr _ _ _)) _ rfl, ?_, ?_⟩
    · rw [e]; rfl
    · exact (((hB.setCell hge.1 _).setCell hge.1 _).setCell hge.1 _).trans (belowK_b (w := w) (Nat.le_refl _) _ D _ _ (by omega) hK2 rfl rfl)
  case stop =>
    rintro D c pre W _ _ h _
    exact h.elim

end Go.Proofs.Ythmldeningpjbaa
