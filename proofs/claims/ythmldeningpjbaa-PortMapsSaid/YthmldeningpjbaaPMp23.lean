/- polynyaref09: in, right, Apply, join, Join -/
import Derived.Test.YthmldeningpjbaaPMp2
import Derived.Test.YthmldeningpjbaaPMp19
import Derived.Test.YthmldeningpjbaaPMp22
import Derived.IntWalk
import Derived.Test.YthmldeningpjbaaPMp8
import Derived.Test.YthmldeningpjbaaPMp12
import Derived.Test.YthmldeningpjbaaPMp5
import Derived.BigQuiet
set_option linter.unusedVariables false
set_option linter.unusedSimpArgs false
namespace Go.Proofs.Ythmldeningpjbaa
open Go Go.RowKit Sp Pt
set_option linter.unusedVariables false
set_option linter.unusedSimpArgs false

theorem rin9_any (n lo hi : Int) (w : World) : Calls Try.prog 102 #[.int .i64 n, .int .i64 lo, .int .i64 hi] w fun e w' => e = .returned (.bool (within n lo hi)) ∧ w = w' := by
  by_cases h1 : lo ≤ n <;> by_cases h2 : n ≤ hi
  all_goals
    go_enter Try.func102, Try.ntmps102
    go_wp2_with fail
    go_ret
    exact ⟨by simp [within, h1, h2], rfl⟩

theorem rright_any (m : Mp) (w : World) :
    Calls Try.prog 101 #[mpV m] w fun e w' => e = .returned (.bool (mright m)) ∧ Below w.heap.size w w' := by
  go_enter Try.func101, Try.ntmps101
  go_wp2_with (go_at_call 102; refine (rin9_any _ _ _ _).mono ?_; rintro e w' ⟨rfl, rfl⟩)
  all_goals (go_ret; refine ⟨?_, (Below.refl _ _).alloc (Nat.le_refl _) _⟩; simp_all [mright]; try (by_cases h : m.most = 1000000000 <;> simp [h]))

theorem rapply_any (m : Mp) (b : Int) (w : World) :
    Calls Try.prog 43 #[mpV m, .int .i64 b] w fun e w' => e = .returned (.tuple #[.int .i64 (applyN m b), .int .i64 (applyE m b)]) ∧ Below w.heap.size w w' := by
  obtain ⟨r, hr⟩ : ∃ r, r = mright m := ⟨_, rfl⟩
  obtain ⟨i, hi⟩ : ∃ i, i = within b 0 100000000 := ⟨_, rfl⟩
  have hm : ∀ wx, Calls Try.prog 101 #[mpV m] wx fun e w' => e = .returned (.bool r) ∧ Below wx.heap.size wx w' := fun wx => by rw [hr]; exact rright_any m wx
  have hw : ∀ wx, Calls Try.prog 102 #[.int .i64 b, .int .i64 0, .int .i64 100000000] wx fun e w' => e = .returned (.bool i) ∧ wx = w' := fun wx => by rw [hi]; exact rin9_any b 0 _ wx
  have h1 : r = true → -100000000 ≤ m.add ∧ m.add ≤ 100000000 := by intro h; have := mright_iff.1 (hr.symm.trans h); simp only [BIG] at this; omega
  have h2 : i = true → 0 ≤ b ∧ b ≤ 100000000 := by intro h; rw [hi] at h; simpa [within] using h
  have HR := Lib.hid (And.intro hr hi)
  clear hr hi
  cases r
  · go_enter Try.func43, Try.ntmps43
    go_wp2_with (go_at_call 101; refine (hm _).mono ?_; rintro e w' ⟨rfl, hb⟩)
    go_ret2
    have e1 : applyE m b = 1 := by unfold applyE; rw [← HR.out.1, if_pos rfl]
    exact ⟨by rw [applyN, e1]; rfl, ((Below.refl _ _).alloc (Nat.le_refl _) _).trans (hb.mono (by simp))⟩
  · obtain ⟨a1, a2⟩ := h1 rfl
    cases i
    · go_enter Try.func43, Try.ntmps43
      go_wp2_with (first | (go_at_call 101; refine (hm _).mono ?_; rintro e w' ⟨rfl, hb⟩) | (go_at_call 102; refine (hw _).mono ?_; rintro e w' ⟨rfl, rfl⟩))
      go_ret2
      have e1 : applyE m b = 6 := by unfold applyE; rw [← HR.out.1, if_neg (by decide), if_pos HR.out.2.symm]
      exact ⟨by rw [applyN, e1]; rfl, ((Below.refl _ _).alloc (Nat.le_refl _) _).trans (hb.mono (by simp))⟩
    · obtain ⟨b1, b2⟩ := h2 rfl
      go_enter Try.func43, Try.ntmps43
      go_wp2_with (first | (go_at_call 101; refine (hm _).mono ?_; rintro e w' ⟨rfl, hb⟩; have f2 : w'.cell? ⟨w.heap.size, 2, none⟩ = some (.int .i64 m.most) := (hb.cell (p := ⟨w.heap.size, 2, none⟩) (by simp)).trans (by simp [World.cell?_alloc_new]); have f1 : w'.cell? ⟨w.heap.size, 1, none⟩ = some (.int .i64 m.floor) := (hb.cell (p := ⟨w.heap.size, 1, none⟩) (by simp)).trans (by simp [World.cell?_alloc_new]); have f0 : w'.cell? ⟨w.heap.size, 0, none⟩ = some (.int .i64 m.add) := (hb.cell (p := ⟨w.heap.size, 0, none⟩) (by simp)).trans (by simp [World.cell?_alloc_new])) | (go_at_call 102; refine (hw _).mono ?_; rintro e w' ⟨rfl, rfl⟩))
      all_goals
        go_ret2
        have e1 : applyE m b = if m.most < b then 8 else 0 := by unfold applyE; rw [← HR.out.1, if_neg (by decide), if_neg (by rw [← HR.out.2]; decide)]
        refine ⟨?_, ((Below.refl _ _).alloc (Nat.le_refl _) _).trans (hb.mono (by simp))⟩
        rw [applyN, e1]
        first | (simp [*]; done) | (simp [*]; omega)
end Go.Proofs.Ythmldeningpjbaa
/- polynyaref09: has, join, Join -/
namespace Go.Proofs.Ythmldeningpjbaa
open Go Go.RowKit Sp Pt
set_option linter.unusedVariables false
set_option linter.unusedSimpArgs false

set_option maxHeartbeats 1000000 in
theorem rhas_any (A : Option Addr) (c : Nat) (l : List Int) (t : Int) (w : World) (hr : Rd w 1 A l.length (ints l)) (hm : l.length ≤ 9223372036854775807) :
    Calls Try.prog 106 #[.slice A l.length c, .int .i64 t] w fun e w' => e = .returned (.bool (l.contains t)) ∧ w = w' := by
  go_enter Try.func106, Try.ntmps106
  go_wp2_with fail
  go_loopg [5] (l.length) (fun g i wr => ∃ k : Nat, g + k = l.length ∧ i = .int .i64 k ∧ (l.take k).contains t = false ∧ w = wr)
  case atStart => exact ⟨0, rfl, rfl, by simp, rfl⟩
  case round =>
    obtain ⟨k, hk, rfl, hb, rfl⟩ := hrel
    have HB := Lib.hid hb
    clear hb
    by_cases hlt : k < l.length
    · obtain ⟨b, off, rfl, hbb, hc⟩ := hr.2 (by omega)
      have c0 := hc k _ (ints_get hlt)
      obtain ⟨x, hx⟩ : ∃ x, x = l.getD k 0 := ⟨_, rfl⟩
      rw [← hx] at c0
      have hx' : l[k] = x := by rw [hx]; simp [hlt]
      have HX := Lib.hid hx'
      clear hx hx' hc hr
      go_wp2_with fail
      · go_ret
        refine ⟨?_, rfl⟩
        have h1 : l.contains t = true := by
          rw [List.contains_iff_mem]
          have : l[k] ∈ l := List.getElem_mem _
          rw [HX.out] at this
          rename_i h
          have h' : x = t := by simpa using h
          rw [← h']; exact this
        rw [h1]; rfl
      · go_roundg (gk - 1)
        case measure => omega
        case rel =>
          refine ⟨k + 1, by omega, by go_num, ?_, rfl⟩
          rw [List.take_succ_eq_append_getElem hlt, HX.out]
          have h2 := HB.out
          simp only [List.contains_eq_mem, decide_eq_false_iff_not, List.mem_append, List.mem_singleton] at h2 ⊢
          rintro (h | h)
          · exact h2 h
          · simp_all
    · obtain rfl : k = l.length := by omega
      go_wp2_with fail
      go_ret
      exact ⟨by have := HB.out; rw [List.take_length] at this; rw [this]; rfl, rfl⟩

set_option maxRecDepth 100000 in
set_option maxHeartbeats 4000000 in
theorem rjoin_any (a m : Mp) (w : World) (ha : farM a) (hm : farM m) (h1 : -1 ≤ a.most) (h2 : -1 ≤ m.most) (h3 : a.floor ≤ NL) :
    Calls Try.prog 103 #[mpV a, mpV m] w fun e w' => e = .returned (mpV (join1 a m)) ∧ Below w.heap.size w w' := by
  obtain ⟨⟨a1, a2⟩, ⟨a3, a4⟩, ⟨a5, a6⟩⟩ := ha
  obtain ⟨⟨m1, m2⟩, ⟨m3, m4⟩, ⟨m5, m6⟩⟩ := hm
  have HJ := Lib.hid (And.intro h1 (And.intro h2 h3))
  go_enter Try.func103, Try.ntmps103
  go_wp2_with fail
  all_goals
    refine bodyPost_ret (v := mpV (join1 a m)) ?_ rfl ⟨rfl, ((((Below.refl _ _).alloc (Nat.le_refl _) _).alloc (by simp) _).alloc (by simp; omega) _).alloc (by simp; omega) _⟩
    have hj := joinL_cases a m
    simp only [results, Try.results103, go_sem, mpV, join1]
    simp [go_sem]
    simp only [NL, beq_iff_eq, beq_eq_false_iff_ne, bne_iff_ne, bne_eq_false_iff_eq, ne_eq] at *
    omega

theorem mpR_results2 {F : Func} {r s : Nat} (hF : F.results = #[.cell r 95, .tmp s]) {W : World} {b : Nat} {m : Mp} (h : W.heap[b]? = some (.cells #[.int .i64 m.add, .int .i64 m.floor, .int .i64 m.most] 95 (0, 0))) (tmps : Array Value) (v : Value) (hr : tmps.getD r undef = .pointer (some ⟨b, 0, none⟩)) (hs : tmps.getD s undef = v) :
    (results F tmps).run Try.prog W = .ok (.tuple #[mpV m, v]) W := by
  have g8 : tmps[r]?.getD undef = .pointer (some ⟨b, 0, none⟩) := by simpa using hr
  have g9 : tmps[s]?.getD undef = v := by simpa using hs
  have c0 : W.cell? ⟨b, 0, none⟩ = some (.int .i64 m.add) := (cell_of_heap h 0).trans rfl
  have c1 : W.cell? ⟨b, 1, none⟩ = some (.int .i64 m.floor) := (cell_of_heap h 1).trans rfl
  have c2 : W.cell? ⟨b, 2, none⟩ = some (.int .i64 m.most) := (cell_of_heap h 2).trans rfl
  simp [results, hF, g8, g9, asAddr, go_sem, c0, c1, c2]
theorem mpR_results {F : Func} {r : Nat} (hF : F.results = #[.cell r 95]) {W : World} {b : Nat} {m : Mp} (h : W.heap[b]? = some (.cells #[.int .i64 m.add, .int .i64 m.floor, .int .i64 m.most] 95 (0, 0))) (tmps : Array Value) (hr : tmps.getD r undef = .pointer (some ⟨b, 0, none⟩)) :
    (results F tmps).run Try.prog W = .ok (mpV m) W := by
  have g8 : tmps[r]?.getD undef = .pointer (some ⟨b, 0, none⟩) := by simpa using hr
  have c0 : W.cell? ⟨b, 0, none⟩ = some (.int .i64 m.add) := (cell_of_heap h 0).trans rfl
  have c1 : W.cell? ⟨b, 1, none⟩ = some (.int .i64 m.floor) := (cell_of_heap h 1).trans rfl
  have c2 : W.cell? ⟨b, 2, none⟩ = some (.int .i64 m.most) := (cell_of_heap h 2).trans rfl
  simp [results, hF, g8, asAddr, go_sem, c0, c1, c2]

set_option maxRecDepth 100000 in
set_option maxHeartbeats 4000000 in
theorem rJoin_any (a m : Mp) (w : World) :
    Calls Try.prog 44 #[mpV a, mpV m] w fun e w' => e = .returned (.tuple #[mpV (joinV a m), .int .i64 (joinE a m)]) ∧ Below w.heap.size w w' := by
  obtain ⟨W, hW⟩ : ∃ W, W = ((w.alloc (.cells #[.int .i64 a.add, .int .i64 a.floor, .int .i64 a.most] 95)).alloc (.cells #[.int .i64 m.add, .int .i64 m.floor, .int .i64 m.most] 95)).alloc (.cells #[.int .i64 0, .int .i64 0, .int .i64 0] 95) := ⟨_, rfl⟩
  obtain ⟨b1, h1⟩ : ∃ b, b = w.heap.size := ⟨_, rfl⟩
  obtain ⟨b2, h2⟩ : ∃ b, b = w.heap.size + 1 := ⟨_, rfl⟩
  obtain ⟨rb, h3⟩ : ∃ b, b = w.heap.size + 1 + 1 := ⟨_, rfl⟩
  have g1 : W.heap[b1]? = some (.cells #[.int .i64 a.add, .int .i64 a.floor, .int .i64 a.most] 95 (0, 0)) := by rw [hW, h1]; exact heap_alloc' (heap_alloc' (heap_alloc_new _ _) _) _
  have g2 : W.heap[b2]? = some (.cells #[.int .i64 m.add, .int .i64 m.floor, .int .i64 m.most] 95 (0, 0)) := by
    rw [hW, h2]
    refine heap_alloc' ?_ _
    have := heap_alloc_new (w.alloc (.cells #[.int .i64 a.add, .int .i64 a.floor, .int .i64 a.most] 95)) (.cells #[.int .i64 m.add, .int .i64 m.floor, .int .i64 m.most] 95)
    rwa [World.size_alloc] at this
  have g3 : W.heap[rb]? = some (.cells #[.int .i64 0, .int .i64 0, .int .i64 0] 95 (0, 0)) := by
    rw [hW, h3]
    have := heap_alloc_new ((w.alloc (.cells #[.int .i64 a.add, .int .i64 a.floor, .int .i64 a.most] 95)).alloc (.cells #[.int .i64 m.add, .int .i64 m.floor, .int .i64 m.most] 95)) (.cells #[.int .i64 0, .int .i64 0, .int .i64 0] 95)
    rwa [World.size_alloc, World.size_alloc] at this
  have b0 : Below w.heap.size w W := by rw [hW]; exact (((Below.refl _ _).alloc (Nat.le_refl _) _).alloc (by simp) _).alloc (by simp; omega) _
  have hrw : w.heap.size ≤ rb := by omega
  have F : ∀ wx, Below W.heap.size W wx → (∀ j u, (#[Value.int .i64 a.add, .int .i64 a.floor, .int .i64 a.most] : Array Value)[j]? = some u → wx.cell? ⟨b1, j, none⟩ = some u) ∧ (∀ j u, (#[Value.int .i64 m.add, .int .i64 m.floor, .int .i64 m.most] : Array Value)[j]? = some u → wx.cell? ⟨b2, j, none⟩ = some u) ∧ wx.heap[rb]? = some (.cells #[.int .i64 0, .int .i64 0, .int .i64 0] 95 (0, 0)) ∧ b1 < wx.heap.size ∧ b2 < wx.heap.size := fun wx b =>
    ⟨fun j u hu => (cell_of_heap ((b.block _ (heap_lt g1)).trans g1) j).trans hu, fun j u hu => (cell_of_heap ((b.block _ (heap_lt g2)).trans g2) j).trans hu, (b.block _ (heap_lt g3)).trans g3, Nat.lt_of_lt_of_le (heap_lt g1) b.size, Nat.lt_of_lt_of_le (heap_lt g2) b.size⟩
  obtain ⟨ra, hra⟩ : ∃ r, r = mright a := ⟨_, rfl⟩
  obtain ⟨rm, hrm⟩ : ∃ r, r = mright m := ⟨_, rfl⟩
  have ka : ∀ wx, Calls Try.prog 101 #[.agg #[.int .i64 a.add, .int .i64 a.floor, .int .i64 a.most]] wx fun e w' => e = .returned (.bool ra) ∧ Below wx.heap.size wx w' := fun wx => by rw [hra]; exact rright_any a wx
  have km : ∀ wx, Calls Try.prog 101 #[.agg #[.int .i64 m.add, .int .i64 m.floor, .int .i64 m.most]] wx fun e w' => e = .returned (.bool rm) ∧ Below wx.heap.size wx w' := fun wx => by rw [hrm]; exact rright_any m wx
  obtain ⟨p0, p1, p2⟩ : W.cell? ⟨b1, 0, none⟩ = some (.int .i64 a.add) ∧ W.cell? ⟨b1, 1, none⟩ = some (.int .i64 a.floor) ∧ W.cell? ⟨b1, 2, none⟩ = some (.int .i64 a.most) := ⟨(F W (Below.refl _ _)).1 0 _ rfl, (F W (Below.refl _ _)).1 1 _ rfl, (F W (Below.refl _ _)).1 2 _ rfl⟩
  have z1 := heap_lt g1
  have z2 := heap_lt g2
  have z3 := heap_lt g3
  have H := Lib.hid (And.intro b0 (And.intro F (And.intro hra (And.intro hrm (And.intro ka km)))))
  clear b0 F hra hrm ka km g1 g2 g3
  simp only [mpV]
  go_enter Try.func44, Try.ntmps44
  go_upto_region 1 with fail
  rw [← hW, ← h3, ← h2, ← h1]
  clear hW h1 h2 h3
  cases ra
  · go_wp2_with (go_at_call 101; refine (H.out.2.2.2.2.1 _).mono ?_; rintro e w2 ⟨rfl, c2⟩; have HFw2 := Lib.hid c2; have q0 := (H.out.2.1 w2 c2).1 0 _ rfl; have q1 := (H.out.2.1 w2 c2).1 1 _ rfl; have q2 := (H.out.2.1 w2 c2).1 2 _ rfl; have r0 := (H.out.2.1 w2 c2).2.1 0 _ rfl; have r1 := (H.out.2.1 w2 c2).2.1 1 _ rfl; have r2 := (H.out.2.1 w2 c2).2.1 2 _ rfl; have hr := (H.out.2.1 w2 c2).2.2.1; have f0 := frozen_of_heap hr 0; have f1 := frozen_of_heap hr 1; have f2 := frozen_of_heap hr 2; have d0 := (cell_of_heap hr 0).trans rfl; have d1 := (cell_of_heap hr 1).trans rfl; have d2 := (cell_of_heap hr 2).trans rfl; have zr := heap_lt hr; have za := (H.out.2.1 w2 c2).2.2.2.1; have zb := (H.out.2.1 w2 c2).2.2.2.2; clear hr; clear c2)
    refine bodyPost_ret (mpR_results2 (r := 4) (s := 5) rfl (b := rb) (m := ⟨0, 0, 0⟩) (st3_heap' (H.out.2.1 w2 HFw2.out).2.2.1 _ _ _) _ (.int .i64 1) rfl rfl) rfl ⟨?_, (((H.out.1.trans (HFw2.out.mono H.out.1.size)).setCell hrw _).setCell hrw _).setCell hrw _⟩
    have e : joinE a m = 1 := by unfold joinE; rw [if_pos (.inl H.out.2.2.1.symm)]
    have e2 : joinV a m = ⟨0, 0, 0⟩ := by unfold joinV; rw [if_neg (by rw [e]; decide)]
    rw [e, e2]
  · cases rm
    · go_wp2_with (first | (go_at_call 101; have bb := HFw2; clear bb; refine (H.out.2.2.2.2.2 _).mono ?_; rintro e w3 ⟨rfl, c3'⟩; have c3 := HFw2.out.trans (c3'.mono HFw2.out.size); have HFw3 := Lib.hid c3; have q0 := (H.out.2.1 w3 c3).1 0 _ rfl; have q1 := (H.out.2.1 w3 c3).1 1 _ rfl; have q2 := (H.out.2.1 w3 c3).1 2 _ rfl; have r0 := (H.out.2.1 w3 c3).2.1 0 _ rfl; have r1 := (H.out.2.1 w3 c3).2.1 1 _ rfl; have r2 := (H.out.2.1 w3 c3).2.1 2 _ rfl; have hr := (H.out.2.1 w3 c3).2.2.1; have f0 := frozen_of_heap hr 0; have f1 := frozen_of_heap hr 1; have f2 := frozen_of_heap hr 2; have d0 := (cell_of_heap hr 0).trans rfl; have d1 := (cell_of_heap hr 1).trans rfl; have d2 := (cell_of_heap hr 2).trans rfl; have zr := heap_lt hr; have za := (H.out.2.1 w3 c3).2.2.2.1; have zb := (H.out.2.1 w3 c3).2.2.2.2; clear hr; clear c3 c3') | (go_at_call 101; refine (H.out.2.2.2.2.1 _).mono ?_; rintro e w2 ⟨rfl, c2⟩; have HFw2 := Lib.hid c2; have q0 := (H.out.2.1 w2 c2).1 0 _ rfl; have q1 := (H.out.2.1 w2 c2).1 1 _ rfl; have q2 := (H.out.2.1 w2 c2).1 2 _ rfl; have r0 := (H.out.2.1 w2 c2).2.1 0 _ rfl; have r1 := (H.out.2.1 w2 c2).2.1 1 _ rfl; have r2 := (H.out.2.1 w2 c2).2.1 2 _ rfl; have hr := (H.out.2.1 w2 c2).2.2.1; have f0 := frozen_of_heap hr 0; have f1 := frozen_of_heap hr 1; have f2 := frozen_of_heap hr 2; have d0 := (cell_of_heap hr 0).trans rfl; have d1 := (cell_of_heap hr 1).trans rfl; have d2 := (cell_of_heap hr 2).trans rfl; have zr := heap_lt hr; have za := (H.out.2.1 w2 c2).2.2.2.1; have zb := (H.out.2.1 w2 c2).2.2.2.2; clear hr; clear c2))
      refine bodyPost_ret (mpR_results2 (r := 4) (s := 5) rfl (b := rb) (m := ⟨0, 0, 0⟩) (st3_heap' (H.out.2.1 w3 HFw3.out).2.2.1 _ _ _) _ (.int .i64 1) rfl rfl) rfl ⟨?_, (((H.out.1.trans (HFw3.out.mono H.out.1.size)).setCell hrw _).setCell hrw _).setCell hrw _⟩
      have e : joinE a m = 1 := by unfold joinE; rw [if_pos (.inr H.out.2.2.2.1.symm)]
      have e2 : joinV a m = ⟨0, 0, 0⟩ := by unfold joinV; rw [if_neg (by rw [e]; decide)]
      rw [e, e2]
    · go_upto_region 3 with (first | (go_at_call 101; have bb := HFw2; clear bb; refine (H.out.2.2.2.2.2 _).mono ?_; rintro e w3 ⟨rfl, c3'⟩; have c3 := HFw2.out.trans (c3'.mono HFw2.out.size); have HFw3 := Lib.hid c3; have q0 := (H.out.2.1 w3 c3).1 0 _ rfl; have q1 := (H.out.2.1 w3 c3).1 1 _ rfl; have q2 := (H.out.2.1 w3 c3).1 2 _ rfl; have r0 := (H.out.2.1 w3 c3).2.1 0 _ rfl; have r1 := (H.out.2.1 w3 c3).2.1 1 _ rfl; have r2 := (H.out.2.1 w3 c3).2.1 2 _ rfl; have hr := (H.out.2.1 w3 c3).2.2.1; have f0 := frozen_of_heap hr 0; have f1 := frozen_of_heap hr 1; have f2 := frozen_of_heap hr 2; have d0 := (cell_of_heap hr 0).trans rfl; have d1 := (cell_of_heap hr 1).trans rfl; have d2 := (cell_of_heap hr 2).trans rfl; have zr := heap_lt hr; have za := (H.out.2.1 w3 c3).2.2.2.1; have zb := (H.out.2.1 w3 c3).2.2.2.2; clear hr; clear c3 c3') | (go_at_call 101; refine (H.out.2.2.2.2.1 _).mono ?_; rintro e w2 ⟨rfl, c2⟩; have HFw2 := Lib.hid c2; have q0 := (H.out.2.1 w2 c2).1 0 _ rfl; have q1 := (H.out.2.1 w2 c2).1 1 _ rfl; have q2 := (H.out.2.1 w2 c2).1 2 _ rfl; have r0 := (H.out.2.1 w2 c2).2.1 0 _ rfl; have r1 := (H.out.2.1 w2 c2).2.1 1 _ rfl; have r2 := (H.out.2.1 w2 c2).2.1 2 _ rfl; have hr := (H.out.2.1 w2 c2).2.2.1; have f0 := frozen_of_heap hr 0; have f1 := frozen_of_heap hr 1; have f2 := frozen_of_heap hr 2; have d0 := (cell_of_heap hr 0).trans rfl; have d1 := (cell_of_heap hr 1).trans rfl; have d2 := (cell_of_heap hr 2).trans rfl; have zr := heap_lt hr; have za := (H.out.2.1 w2 c2).2.2.2.1; have zb := (H.out.2.1 w2 c2).2.2.2.2; clear hr; clear c2))
      obtain ⟨y, hy⟩ : ∃ y, y = join1 a m := ⟨_, rfl⟩
      have kj := rjoin_any a m w3 (mright_far H.out.2.2.1.symm) (mright_far H.out.2.2.2.1.symm) (by have := mright_iff.1 H.out.2.2.1.symm; simp only [NL, BIG] at *; omega) (by have := mright_iff.1 H.out.2.2.2.1.symm; simp only [NL, BIG] at *; omega) (by have := mright_iff.1 H.out.2.2.1.symm; simp only [NL, BIG] at *; omega)
      rw [← hy] at kj
      have HJ := Lib.hid (And.intro kj hy)
      clear kj hy
      go_upto_region 4 with (go_at_call 103; refine HJ.out.1.mono ?_; rintro e w4 ⟨rfl, c4'⟩; have HF4 := Lib.hid (HFw3.out.trans (c4'.mono HFw3.out.size)); clear c4')
      obtain ⟨X, hX⟩ : ∃ X, X = w4.alloc (.cells #[.int .i64 y.add, .int .i64 y.floor, .int .i64 y.most] 95) := ⟨_, rfl⟩
      obtain ⟨yb, hyb⟩ : ∃ b, b = w4.heap.size := ⟨_, rfl⟩
      have gX : X.heap[yb]? = some (.cells #[.int .i64 y.add, .int .i64 y.floor, .int .i64 y.most] 95 (0, 0)) := by rw [hX, hyb]; exact heap_alloc_new _ _
      have bX : Below W.heap.size W X := by rw [hX]; exact HF4.out.alloc HF4.out.size _
      have hyr : rb ≠ yb := by have := HF4.out.size; omega
      rw [← hX, ← hyb]
      obtain ⟨ry, hry⟩ : ∃ r, r = mright y := ⟨_, rfl⟩
      have ky : ∀ wx, Calls Try.prog 101 #[.agg #[.int .i64 y.add, .int .i64 y.floor, .int .i64 y.most]] wx fun e w' => e = .returned (.bool ry) ∧ Below wx.heap.size wx w' := fun wx => by rw [hry]; exact rright_any y wx
      have x0 : X.cell? ⟨yb, 0, none⟩ = some (.int .i64 y.add) := (cell_of_heap gX 0).trans rfl
      have x1 : X.cell? ⟨yb, 1, none⟩ = some (.int .i64 y.floor) := (cell_of_heap gX 1).trans rfl
      have x2 : X.cell? ⟨yb, 2, none⟩ = some (.int .i64 y.most) := (cell_of_heap gX 2).trans rfl
      have zx := heap_lt gX
      have HX := Lib.hid (And.intro gX (And.intro hry (And.intro ky (And.intro bX hyr))))
      clear gX hry ky bX hX hyb q0 q1 q2 r0 r1 r2 f0 f1 f2 d0 d1 d2 zr za zb
      cases ry
      · go_wp2_with (go_at_call 101; refine (HX.out.2.2.1 _).mono ?_; rintro e w5 ⟨rfl, c5'⟩; have c5 := HX.out.2.2.2.1.trans (c5'.mono HX.out.2.2.2.1.size); have hr := (H.out.2.1 w5 c5).2.2.1; have f0 := frozen_of_heap hr 0; have f1 := frozen_of_heap hr 1; have f2 := frozen_of_heap hr 2; have d0 := (cell_of_heap hr 0).trans rfl; have d1 := (cell_of_heap hr 1).trans rfl; have d2 := (cell_of_heap hr 2).trans rfl; have zr := heap_lt hr; have hy5 := (c5'.block _ (heap_lt HX.out.1)).trans HX.out.1; have y0 := (cell_of_heap hy5 0).trans rfl; have y1 := (cell_of_heap hy5 1).trans rfl; have y2 := (cell_of_heap hy5 2).trans rfl; have zy := heap_lt hy5; have HF5 := Lib.hid c5; clear hr hy5 c5 c5')
        refine bodyPost_ret (mpR_results2 (r := 4) (s := 5) rfl (b := rb) (m := ⟨0, 0, 0⟩) (st3_heap' (H.out.2.1 w5 HF5.out).2.2.1 _ _ _) _ (.int .i64 6) rfl rfl) rfl ⟨?_, (((H.out.1.trans (HF5.out.mono H.out.1.size)).setCell hrw _).setCell hrw _).setCell hrw _⟩
        have e : joinE a m = 6 := by unfold joinE; rw [if_neg (by rw [← H.out.2.2.1, ← H.out.2.2.2.1]; decide), if_pos (by rw [← HJ.out.2]; exact HX.out.2.1.symm)]
        have e2 : joinV a m = ⟨0, 0, 0⟩ := by unfold joinV; rw [if_neg (by rw [e]; decide)]
        rw [e, e2]
      · go_wp2_with (go_at_call 101; refine (HX.out.2.2.1 _).mono ?_; rintro e w5 ⟨rfl, c5'⟩; have c5 := HX.out.2.2.2.1.trans (c5'.mono HX.out.2.2.2.1.size); have hr := (H.out.2.1 w5 c5).2.2.1; have f0 := frozen_of_heap hr 0; have f1 := frozen_of_heap hr 1; have f2 := frozen_of_heap hr 2; have d0 := (cell_of_heap hr 0).trans rfl; have d1 := (cell_of_heap hr 1).trans rfl; have d2 := (cell_of_heap hr 2).trans rfl; have zr := heap_lt hr; have hy5 := (c5'.block _ (heap_lt HX.out.1)).trans HX.out.1; have y0 := (cell_of_heap hy5 0).trans rfl; have y1 := (cell_of_heap hy5 1).trans rfl; have y2 := (cell_of_heap hy5 2).trans rfl; have zy := heap_lt hy5; have HF5 := Lib.hid c5; clear hr hy5 c5 c5')
        refine bodyPost_ret (mpR_results2 (r := 4) (s := 5) rfl (b := rb) (m := y) (st3_heap' (H.out.2.1 w5 HF5.out).2.2.1 _ _ _) _ (.int .i64 0) rfl rfl) rfl ⟨?_, (((H.out.1.trans (HF5.out.mono H.out.1.size)).setCell hrw _).setCell hrw _).setCell hrw _⟩
        have e : joinE a m = 0 := by unfold joinE; rw [if_neg (by rw [← H.out.2.2.1, ← H.out.2.2.2.1]; decide), if_neg (by rw [← HJ.out.2, ← HX.out.2.1]; decide)]
        have e2 : joinV a m = y := by unfold joinV; rw [if_pos e, HJ.out.2]
        rw [e, e2]
end Go.Proofs.Ythmldeningpjbaa
/- polynyaref09.Check -/
namespace Go.Proofs.Ythmldeningpjbaa
open Go Go.RowKit Sp Pt
set_option linter.unusedVariables false
set_option linter.unusedSimpArgs false

theorem pathOk_take {n : Int} {l : List Int} {j : Nat} : ∀ m, m ≤ j → pathOk n (l.take j) m = pathOk n l m
  | 0, _ => rfl
  | m + 1, h => by
    have e1 : (l.take j).getD m 0 = l.getD m 0 := by simp [List.getD_eq_getElem?_getD, List.getElem?_take, show m < j from by omega]
    have e2 : (l.take j).take m = l.take m := by rw [List.take_take, Nat.min_eq_left (by omega)]
    rw [pathOk, pathOk, e1, e2, pathOk_take m (by omega)]
theorem path_pre {n : Nat} {l : List Int} {j : Nat} (hj : j ≤ l.length) (h : pathOk n l j = true) : j ≤ n := by
  have e : (l.take j).length = j := by rw [List.length_take]; omega
  have h1 : pathOk n (l.take j) (l.take j).length = true := by rw [e, pathOk_take j (Nat.le_refl _)]; exact h
  have := nodup_range_le (path_ok h1).1 (path_ok h1).2
  omega
theorem checkR_chs {p : Prt} (h1 : within p.chs.length 1 6 = true) (h2 : within p.bts.length 1 4 = true) (h4 : p.chs.all chOk = false) : checkP p = 100 := by
  cases h3 : within p.tugs 0 20
  · exact checkP_2 h1 h2 h3
  · exact checkP_3 h1 h2 h3 h4
theorem checkR_bts {p : Prt} (h1 : within p.chs.length 1 6 = true) (h2 : within p.bts.length 1 4 = true) (h5 : p.bts.all (btOk p.chs.length) = false) : checkP p = 100 := by
  cases h4 : p.chs.all chOk
  · exact checkR_chs h1 h2 h4
  · cases h3 : within p.tugs 0 20
    · exact checkP_2 h1 h2 h3
    · exact checkP_4 h1 h2 h3 h4 h5

set_option maxRecDepth 100000 in
set_option maxHeartbeats 4000000 in
theorem rCheck_any (D : Nat) (Ac : Option Addr) (cc : Nat) (Ab : Option Addr) (cb : Nat) (p : Prt) (w : World) (hp : PrtB D w Ac cc Ab cb p) (hD : D ≤ w.heap.size) :
    Calls Try.prog 51 #[.agg (prtV Ac cc Ab cb p)] w fun e w' => e = .returned (.int .i64 (checkP p)) ∧ Below w.heap.size w w' := by
  obtain ⟨iI, hI0, hI1, hI2, hI3⟩ := info_parts infoKI
  have b0 : Below w.heap.size w (w.alloc (.cells (prtV Ac cc Ab cb p) 79)) := (Below.refl _ _).alloc (Nat.le_refl _) _
  cases h1 : within p.chs.length 1 6
  · go_enter Try.func51, Try.ntmps51
    go_wp2_with (go_at_call 102; refine (rin9_any _ _ _ _).mono ?_; rintro e w' ⟨rfl, rfl⟩)
    go_ret
    exact ⟨by rw [checkP_1 (by rw [h1]; rfl)]; rfl, b0⟩
  cases h2 : within p.bts.length 1 4
  · go_enter Try.func51, Try.ntmps51
    go_wp2_with (go_at_call 102; refine (rin9_any _ _ _ _).mono ?_; rintro e w' ⟨rfl, rfl⟩)
    go_ret
    exact ⟨by rw [checkP_1 (by rw [h1, h2]; rfl)]; rfl, b0⟩
  have hl1 : 1 ≤ p.chs.length ∧ p.chs.length ≤ 6 := by simp [within] at h1; omega
  have hl2 : 1 ≤ p.bts.length ∧ p.bts.length ≤ 4 := by simp [within] at h2; omega
  obtain ⟨bc, oc, rfl, hbc, hcc⟩ := hp.chs.2 (by omega)
  have HP := Lib.hid hp
  have HB := Lib.hid hcc
  clear hp hcc
  go_enter Try.func51, Try.ntmps51
  go_upto_region 3 with (go_at_call 102; refine (rin9_any _ _ _ _).mono ?_; rintro e w' ⟨rfl, rfl⟩)
  obtain ⟨W, hW⟩ : ∃ W, W = w.alloc (.cells (prtV (some ⟨bc, oc, none⟩) cc Ab cb p) 79) := ⟨_, rfl⟩
  obtain ⟨bx, hbx⟩ : ∃ bx, bx = w.heap.size := ⟨_, rfl⟩
  have fp : W.heap[bx]? = some (.cells (prtV (some ⟨bc, oc, none⟩) cc Ab cb p) 79 (0, 0)) := by rw [hW, hbx]; exact heap_alloc_new _ _
  rw [← hW, ← hbx]
  have b1 : Below w.heap.size w W := by rw [hW]; exact b0
  have f0 : W.cell? ⟨bx, 0, none⟩ = some (.slice (some ⟨bc, oc, none⟩) p.chs.length cc) := (cell_of_heap fp 0).trans rfl
  have f1 : W.cell? ⟨bx, 1, none⟩ = some (.slice Ab p.bts.length cb) := (cell_of_heap fp 1).trans rfl
  have f2 : W.cell? ⟨bx, 2, none⟩ = some (.int .i64 p.tugs) := (cell_of_heap fp 2).trans rfl
  have hxW := heap_lt fp
  have HW := Lib.hid (And.intro b1 (And.intro h1 h2))
  clear hW hbx fp b0 b1 h1 h2
  have hbcW : bc < W.heap.size := by have := HW.out.1.size; omega
  go_wp2_with fail
  go_loopg [3] (p.chs.length) (fun g i wr => ∃ k : Nat, g + k = p.chs.length ∧ i = .int .i64 k ∧ (p.chs.take k).all chOk = true ∧ Keep [] W wr)
  case atStart => exact ⟨0, rfl, rfl, by simp, Keep.refl _ _⟩
  case round =>
    obtain ⟨k, hk, rfl, hok, hK⟩ := hrel
    have g0 := hK.cell f0 (by simp)
    have hxr : bx < wr.heap.size := by have := hK.size; omega
    by_cases hlt : k < p.chs.length
    · obtain ⟨s0, s1, s2⟩ := chcs_get hlt
      obtain ⟨x, hx⟩ : ∃ x, x = p.chs[k] := ⟨_, rfl⟩
      rw [← hx] at s0 s1 s2
      have bB : Below w.heap.size w wr := HW.out.1.trans (hK.below HW.out.1.size (by simp))
      have cw : ∀ {o : Nat} {u : Value}, w.cell? ⟨bc, o, none⟩ = some u → wr.cell? ⟨bc, o, none⟩ = some u := fun h => (bB.cell (p := ⟨bc, _, none⟩) (show bc < w.heap.size by omega)).trans h
      have d0 := cw (HB.out _ _ s0)
      have d1 : wr.cell? ⟨bc, oc + k * 3 + 1, none⟩ = some (.int .i64 x.frost) := cw (HB.out _ _ s1)
      have d2 : wr.cell? ⟨bc, oc + k * 3 + 2, none⟩ = some (.int .i64 x.clear) := cw (HB.out _ _ s2)
      have hbl : bc < wr.heap.size := by have := hK.size; omega
      have HI := Lib.hid (And.intro hok (And.intro hK (And.intro bB hx)))
      have n2 : (k : Int) < (p.chs.length : Int) := by omega
      clear s0 s1 s2 hok hK hx bB cw f0 f1 f2
      go_wp2_with (go_at_call 102; refine (rin9_any _ _ _ _).mono ?_; rintro e w' ⟨rfl, rfl⟩)
      any_goals (go_ret; refine ⟨?_, HI.out.2.2.1.alloc HI.out.2.2.1.size _⟩; rw [checkR_chs HW.out.2.1 HW.out.2.2 (all_not hlt (by rw [← HI.out.2.2.2]; simp_all [chOk]))]; rfl)
      go_roundg (gk - 1)
      case measure => omega
      case rel => exact ⟨k + 1, by omega, by go_num, all_take_succ hlt HI.out.1 (by rw [← HI.out.2.2.2]; simp_all [chOk]), HI.out.2.1.alloc _⟩
    · obtain rfl : k = p.chs.length := by omega
      have hal : p.chs.all chOk = true := by rwa [List.take_length] at hok
      have HC := Lib.hid (And.intro hal hK)
      have f1' := hK.cell f1 (by simp)
      have f2' := hK.cell f2 (by simp)
      clear hal hok hK f1 hk f0 f2
      obtain ⟨w1, hw1⟩ : ∃ w1, w1 = wr := ⟨_, rfl⟩
      subst hw1
      go_wp2_with fail
      go_loopg [5] (p.bts.length) (fun g i wq => ∃ k : Nat, g + k = p.bts.length ∧ i = .int .i64 k ∧ (p.bts.take k).all (btOk p.chs.length) = true ∧ Keep [] w1 wq)
      case atStart => exact ⟨0, rfl, rfl, by simp, Keep.refl _ _⟩
      case round =>
        obtain ⟨w2, hw2⟩ : ∃ w2, w2 = wr := ⟨_, rfl⟩
        subst hw2
        obtain ⟨k, hk, rfl, hok, hK⟩ := hrel
        have g1 := hK.cell f1' (by simp)
        have g0' := hK.cell g0 (by simp)
        have g2 := hK.cell f2' (by simp)
        have hxq : bx < w2.heap.size := by have := hK.size; omega
        by_cases hlt : k < p.bts.length
        · obtain ⟨b, off, Ak, ck, hAb, hbD, d1, d2, d3⟩ := HP.out.bts k hlt
          obtain ⟨x, hx⟩ : ∃ x, x = p.bts[k] := ⟨_, rfl⟩
          rw [← hx] at d1 d2 d3
          obtain ⟨dp, pth⟩ := x
          simp only at d1 d2 d3
          have bB : Below w.heap.size w w2 := (HW.out.1.trans (HC.out.2.below HW.out.1.size (by simp))).trans (hK.below (by have := HW.out.1.size; have := HC.out.2.size; omega) (by simp))
          have d1' := (bB.cell (p := ⟨b, off + k * 2, none⟩) (show b < w.heap.size by omega)).trans d1
          have d2' := (bB.cell (p := ⟨b, off + k * 2 + 1, none⟩) (show b < w.heap.size by omega)).trans d2
          have d3' : PathB w.heap.size w2 Ak ck pth := (d3.mono hD).below bB
          have hbl : b < w2.heap.size := by have := bB.size; omega
          have hkb : btOk p.chs.length p.bts[k] = (within dp 10 3000 && (!decide (pth.length = 0) && pathOk p.chs.length pth pth.length)) := by rw [← hx]; rfl
          have hbad : btOk p.chs.length p.bts[k] = false → checkP p = 100 := fun h => checkR_bts HW.out.2.1 HW.out.2.2 (all_not hlt h)
          have hpc := d3'.2.1
          have hpm := d3'.2.2.1
          have HI := Lib.hid (And.intro hok (And.intro hK (And.intro bB (And.intro hkb (And.intro hbad d3')))))
          have n2 : (k : Int) < (p.bts.length : Int) := by omega
          subst hAb
          clear hok hK hx bB d1 d2 d3 d3' hkb hbad f1' f2' g0 g2
          cases hz : within dp 10 3000
          · go_wp2_with (go_at_call 102; refine (rin9_any _ _ _ _).mono ?_; rintro e w' ⟨rfl, rfl⟩)
            go_ret
            exact ⟨by rw [HI.out.2.2.2.2.1 (by rw [HI.out.2.2.2.1, hz]; rfl)]; rfl, HI.out.2.2.1.alloc HI.out.2.2.1.size _⟩
          by_cases hn : pth.length = 0
          · rw [hn] at d2' hpc
            go_wp2_with (go_at_call 102; refine (rin9_any _ _ _ _).mono ?_; rintro e w' ⟨rfl, rfl⟩)
            go_ret
            exact ⟨by rw [HI.out.2.2.2.2.1 (by rw [HI.out.2.2.2.1, hz, hn]; rfl)]; rfl, HI.out.2.2.1.alloc HI.out.2.2.1.size _⟩
          have hn0 : ((pth.length : Int) == 0) = false := beq_eq_false_iff_ne.2 (by omega)
          obtain ⟨gb, rfl⟩ : ∃ gb, gb = gk := ⟨_, rfl⟩
          go_upto_region 15 with (go_at_call 102; refine (rin9_any _ _ _ _).mono ?_; rintro e w' ⟨rfl, rfl⟩)
          obtain ⟨W3, hW3⟩ : ∃ W, W = w2.alloc (.cells #[.int .i64 dp, .slice Ak pth.length ck] 172) := ⟨_, rfl⟩
          obtain ⟨bq, hbq⟩ : ∃ bq, bq = w2.heap.size := ⟨_, rfl⟩
          have b3 : Below w2.heap.size w2 W3 := by rw [hW3]; exact (Below.refl _ _).alloc (Nat.le_refl _) _
          have q1 : W3.cell? ⟨bq, 1, none⟩ = some (.slice Ak pth.length ck) := by rw [hW3, hbq]; simp [World.cell?_alloc_new]
          have hqw : bq < W3.heap.size := by rw [hW3, hbq]; simp
          have e0 := (b3.cell (p := ⟨bx, 0, none⟩) (show bx < w2.heap.size from hxq)).trans g0'
          have e1 := (b3.cell (p := ⟨bx, 1, none⟩) (show bx < w2.heap.size from hxq)).trans g1
          have p3 : PathB w.heap.size W3 Ak ck pth := HI.out.2.2.2.2.2.below (b3.mono HI.out.2.2.1.size)
          obtain ⟨bp, op, hAk, hbp, hpc3⟩ := p3.1.2 (by omega)
          have bwp : bp < W3.heap.size := by have := b3.size; have := HI.out.2.2.1.size; omega
          have hpl6 := p3.2.2.1
          rw [← hW3, ← hbq]
          have H3 := Lib.hid (And.intro b3 (And.intro p3 (And.intro hz (And.intro hpc3 (show ¬ pth.length = 0 from hn)))))
          have hxq3 : bx < W3.heap.size := by have := b3.size; omega
          subst hAk
          clear hW3 hbq b3 g0' g1 d1' d2' p3 hz hpc3 hpc
          have hnn : 0 < pth.length := by omega
          clear hn hn0
          go_wp2_with fail
          go_loopg [7, 8] (pth.length) (fun g o i wi => ∃ (j : Nat) (Ao : Option Addr) (co : Nat) (q : List Nat), g + j = pth.length ∧ i = .int .i64 j ∧ o = .slice Ao j co ∧ OwnA wi 3 Ao j co (ints (pth.take j)) q ∧ (∀ g ∈ q, W3.heap.size ≤ g) ∧ pathOk p.chs.length pth j = true ∧ j ≤ 6 ∧ Keep [] W3 wi)
          case atStart => exact ⟨0, none, 0, [], rfl, rfl, rfl, by simpa [ints] using OwnA.nil _ _, by simp, rfl, by omega, Keep.refl _ _⟩
          case round =>
            obtain ⟨j, Ao, co, q, hj, rfl, rfl, hO, hq, hjk, hj6, hK3⟩ := hrel
            have k1 := hK3.cell q1 (by simp)
            have k0 := hK3.cell e0 (by simp)
            have zq : bq < wr.heap.size := by have := hK3.size; omega
            have zx : bx < wr.heap.size := by have := hK3.size; omega
            by_cases hlj : j < pth.length
            · obtain ⟨n, hn⟩ : ∃ n, n = pth.getD j 0 := ⟨_, rfl⟩
              have c0 : wr.cell? ⟨bp, op + j, none⟩ = some (.int .i64 n) := by rw [hn]; exact hK3.cell (H3.out.2.2.2.1 j _ (ints_get hlj)) (by simp)
              have zbp : bp < wr.heap.size := by have := hK3.size; omega
              have hS : pathOk p.chs.length pth (j + 1) = (pathOk p.chs.length pth j && (within n 0 ((p.chs.length : Int) - 1) && !(pth.take j).contains n)) := by rw [hn]; rfl
              have hN : (within n 0 ((p.chs.length : Int) - 1) && !(pth.take j).contains n) = false → pathOk p.chs.length pth pth.length = false := fun h => pathOk_no hlj (by rw [← hn]; exact h)
              have htk : (pth.take j).length = j := by rw [List.length_take]; omega
              have hct : ∀ m, Calls Try.prog 106 #[.slice Ao j co, .int .i64 n] (wr.drewN m) fun e w' => e = .returned (.bool ((pth.take j).contains n)) ∧ w' = wr.drewN m := fun m => by
                have h := rhas_any Ao co (pth.take j) n (wr.drewN m) (by rw [htk]; exact (hO.drewN m).rd) (by omega)
                rw [htk] at h
                exact h.mono fun e w' ⟨h1, h2⟩ => ⟨h1, h2.symm⟩
              have hle : within n 0 ((p.chs.length : Int) - 1) = true → (pth.take j).contains n = false → j + 1 ≤ 6 := fun h h' => by
                have h7 : pathOk p.chs.length pth (j + 1) = true := by rw [hS, hjk, h, h']; rfl
                have := path_pre (by omega) h7
                omega
              obtain ⟨z, hzz⟩ : ∃ z, z = (pth.take j).contains n := ⟨_, rfl⟩
              rw [← hzz] at hct hS hN hle
              have n3 : (j : Int) < (pth.length : Int) := by omega
              have HJ := Lib.hid (And.intro hct (And.intro hS (And.intro hN (And.intro hjk (And.intro hn (And.intro hO (And.intro hq (And.intro hK3 hle))))))))
              have hin : ∀ m, Calls Try.prog 102 #[.int .i64 n, .int .i64 0, .int .i64 ((p.chs.length : Int) - 1)] (wr.drewN m) fun e w' => e = .returned (.bool (within n 0 ((p.chs.length : Int) - 1))) ∧ w' = wr.drewN m := fun m => (rin9_any _ _ _ _).mono fun e w' ⟨h1, h2⟩ => ⟨h1, h2.symm⟩
              clear hct hS hN hjk hn hzz hO hq hK3 hle
              cases hw : within n 0 ((p.chs.length : Int) - 1)
              · rw [hw] at hin
                have HD := Lib.hid hin
                clear hin
                go_upto_region 19 with fail
                go_quiet ((go_at_call 102; with_reducible exact Calls.quiet_of_same (HD.out _)))
                go_wp2_with fail
                go_ret
                refine ⟨?_, (HI.out.2.2.1.trans (H3.out.1.mono HI.out.2.2.1.size)).trans ((HJ.out.2.2.2.2.2.2.2.1.drewN _).below (by have := HI.out.2.2.1.size; have := H3.out.1.size; omega) (by simp))⟩
                rw [HI.out.2.2.2.2.1 (by rw [HI.out.2.2.2.1, H3.out.2.2.1, HJ.out.2.2.1 (by rw [hw]; rfl)]; simp)]; rfl
              · rw [hw] at hin
                have HD := Lib.hid hin
                clear hin
                cases z
                · go_upto_region 19 with fail
                  go_quiet ((first | (go_at_call 102; with_reducible exact Calls.quiet_of_same (HD.out _)) | (go_at_call 106; with_reducible exact Calls.quiet_of_same (HJ.out.1 _))))
                  have hle := HJ.out.2.2.2.2.2.2.2.2 hw rfl
                  go_wp2_with (at_builtin
                               refine wpList_append_A rfl (.tmp 98) (.tmp 104) 33 rfl iI _ 8 Try.underlying33 hI0 hI1 hI2 hI3 rfl (A := Ao) (n := j) (c := co) (xs := ints (pth.take j)) (fp := q) (by simp [Act.eval]) _ (by simp [Act.eval]) (.int .i64 n) (((HJ.out.2.2.2.2.2.1.drewN _).alloc _)) (cell_new_one _ _ _) rfl (by omega) (by omega) ?_
                               intro g off' c' w4 e1 e2 e3 e4
                               have HQ := Lib.hid (And.intro e1 (And.intro e2 e4))
                               clear e1 e2 e3 e4)
                  go_roundg (gk - 1)
                  case measure => omega
                  case rel =>
                    obtain ⟨h1, h2, h3, h4, h5, h6, h7, h8, h9⟩ := HJ.out
                    obtain ⟨e1, e2, e4⟩ := HQ.out
                    refine ⟨j + 1, some ⟨g, off', none⟩, c', [g], by omega, by go_num, by go_num, ?_, ?_, by rw [h2, h4, hw]; rfl, hle, ((h8.drewN _).alloc _).trans e4 (fun y hy => .inr (h7 y hy))⟩
                    · rw [List.take_succ_eq_append_getElem hlj]
                      have : pth[j] = n := by rw [h5]; simp [hlj]
                      rw [this]
                      simpa [ints] using e1
                    · intro y hy
                      have e : y = g := by simpa using hy
                      subst e
                      rcases e2 with e | e
                      · exact h7 y e
                      · have := h8.size; simp at e; omega
                · go_upto_region 19 with fail
                  go_quiet ((first | (go_at_call 102; with_reducible exact Calls.quiet_of_same (HD.out _)) | (go_at_call 106; with_reducible exact Calls.quiet_of_same (HJ.out.1 _))))
                  go_wp2_with fail
                  go_ret
                  refine ⟨?_, (HI.out.2.2.1.trans (H3.out.1.mono HI.out.2.2.1.size)).trans ((HJ.out.2.2.2.2.2.2.2.1.drewN _).below (by have := HI.out.2.2.1.size; have := H3.out.1.size; omega) (by simp))⟩
                  rw [HI.out.2.2.2.2.1 (by rw [HI.out.2.2.2.1, H3.out.2.2.1, HJ.out.2.2.1 (by rw [hw]; rfl)]; simp)]; rfl
            · obtain rfl : j = pth.length := by omega
              have HL := Lib.hid (And.intro hjk hK3)
              clear hjk hK3 hO hq
              go_wp2_with fail
              go_roundg (gb - 1)
              case measure => omega
              case rel =>
                refine ⟨k + 1, by omega, by go_num, all_take_succ hlt HI.out.1 (by rw [HI.out.2.2.2.1, H3.out.2.2.1, HL.out.1]; simp; have := H3.out.2.2.2.2; intro h; rw [h] at this; simp at this), ?_⟩
                exact (HI.out.2.1.trans (Keep.of_below (S := []) H3.out.1) (by simp)).trans HL.out.2 (by simp)
        · obtain rfl : k = p.bts.length := by omega
          have hal : p.bts.all (btOk p.chs.length) = true := by rwa [List.take_length] at hok
          have bB : Below w.heap.size w w2 := (HW.out.1.trans (HC.out.2.below HW.out.1.size (by simp))).trans (hK.below (by have := HW.out.1.size; have := HC.out.2.size; omega) (by simp))
          have HE := Lib.hid (And.intro hal bB)
          clear hal hok hK bB
          cases ht : within p.tugs 0 20
          · go_wp2_with (go_at_call 102; refine (rin9_any _ _ _ _).mono ?_; rintro e w' ⟨rfl, rfl⟩)
            go_ret
            exact ⟨by rw [checkP_2 HW.out.2.1 HW.out.2.2 ht]; rfl, HE.out.2⟩
          · go_wp2_with (go_at_call 102; refine (rin9_any _ _ _ _).mono ?_; rintro e w' ⟨rfl, rfl⟩)
            go_ret
            exact ⟨by rw [checkP_5 HW.out.2.1 HW.out.2.2 ht HC.out.1 HE.out.1]; rfl, HE.out.2⟩
end Go.Proofs.Ythmldeningpjbaa
