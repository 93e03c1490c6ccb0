/- ice: size, wrong of cells, CheckChart -/
import Derived.Test.YtfmhlnfcbbpfeaaRCp13
import Derived.Laws.Bits64b
import Derived.IntWalk
set_option linter.unusedVariables false
namespace Go.Proofs.Ytfmhlnfcbbpfeaa
open Go Go.RowKit Sp
set_option linter.unusedVariables false

def sizeOk (a b c : Int) : Bool := within a 1 64 && within b 1 64 && decide (a * b ≤ 1024) && within c 0 10000
def sizeE (a b c : Int) : Int := if sizeOk a b c then 0 else 6
def celsE (l : List Cel) : Int := if l.all celOk then 0 else 20
def chartE (a b c : Int) (l : List Cel) : Int := if sizeE a b c ≠ 0 then sizeE a b c else if (l.length : Int) ≠ a * b then 1 else celsE l

set_option maxRecDepth 100000 in
set_option maxHeartbeats 1000000 in
theorem size_any (a b c : Int) (w : World) :
    Calls Try.prog 111 #[.int .i64 a, .int .i64 b, .int .i64 c] w fun e w' => e = .returned (.int .i64 (sizeE a b c)) ∧ w = w' := by
  obtain ⟨r1, hr1⟩ : ∃ r, r = within a 1 64 := ⟨_, rfl⟩
  obtain ⟨r2, hr2⟩ : ∃ r, r = within b 1 64 := ⟨_, rfl⟩
  obtain ⟨r3, hr3⟩ : ∃ r, r = within c 0 10000 := ⟨_, rfl⟩
  have k1 : ∀ wx, Calls Try.prog 107 #[.int .i64 a, .int .i64 1, .int .i64 64] wx fun e w' => e = .returned (.bool r1) ∧ wx = w' := fun wx => by rw [hr1]; exact icein_any _ _ _ wx
  have k2 : ∀ wx, Calls Try.prog 107 #[.int .i64 b, .int .i64 1, .int .i64 64] wx fun e w' => e = .returned (.bool r2) ∧ wx = w' := fun wx => by rw [hr2]; exact icein_any _ _ _ wx
  have k3 : ∀ wx, Calls Try.prog 107 #[.int .i64 c, .int .i64 0, .int .i64 10000] wx fun e w' => e = .returned (.bool r3) ∧ wx = w' := fun wx => by rw [hr3]; exact icein_any _ _ _ wx
  have hE : sizeE a b c = if (r1 && r2 && decide (a * b ≤ 1024) && r3) = true then 0 else 6 := by rw [hr1, hr2, hr3]; rfl
  have hab : r1 = true → r2 = true → 0 ≤ a * b ∧ a * b ≤ 4096 := fun h1 h2 => by
    rw [hr1] at h1; rw [hr2] at h2
    simp [within] at h1 h2
    refine ⟨Int.mul_nonneg (by omega) (by omega), ?_⟩
    have := Int.mul_le_mul h1.2 h2.2 (by omega) (by omega)
    omega
  obtain ⟨P, hP⟩ : ∃ P, P = a * b := ⟨_, rfl⟩
  rw [← hP] at hE hab
  have H := Lib.hid (And.intro k1 (And.intro k2 (And.intro k3 hE)))
  clear hr1 hr2 hr3 k1 k2 k3
  cases r1
  · clear hP hab hE
    go_enter Try.func111, Try.ntmps111
    go_wp2_with (go_at_call 107; refine (H.out.1 _).mono ?_; rintro e w' ⟨rfl, rfl⟩)
    go_ret
    exact ⟨by rw [H.out.2.2.2]; rfl, rfl⟩
  · cases r2
    · clear hP hab hE
      go_enter Try.func111, Try.ntmps111
      go_wp2_with (first | (go_at_call 107; with_reducible refine (H.out.1 _).mono ?_; rintro e w' ⟨rfl, rfl⟩) | (go_at_call 107; with_reducible refine (H.out.2.1 _).mono ?_; rintro e w' ⟨rfl, rfl⟩))
      go_ret
      exact ⟨by rw [H.out.2.2.2]; rfl, rfl⟩
    · obtain ⟨p1, p2⟩ := hab rfl rfl
      have w1 : IntKind.i64.wrap (a * b) = P := by rw [← hP]; exact IntWalk.i64_in _ (by omega)
      clear hab hP hE
      by_cases h : 1024 < P
      · have hd : decide (P ≤ 1024) = false := by simp; omega
        have HD := Lib.hid hd
        clear hd
        go_enter Try.func111, Try.ntmps111
        go_wp2_with (first | (go_at_call 107; with_reducible refine (H.out.1 _).mono ?_; rintro e w' ⟨rfl, rfl⟩) | (go_at_call 107; with_reducible refine (H.out.2.1 _).mono ?_; rintro e w' ⟨rfl, rfl⟩))
        go_ret
        exact ⟨by rw [H.out.2.2.2, HD.out]; rfl, rfl⟩
      · have hd : decide (P ≤ 1024) = true := by simp; omega
        have HD := Lib.hid hd
        clear hd
        cases r3
        · go_enter Try.func111, Try.ntmps111
          go_wp2_with (first | (go_at_call 107; with_reducible refine (H.out.1 _).mono ?_; rintro e w' ⟨rfl, rfl⟩) | (go_at_call 107; with_reducible refine (H.out.2.1 _).mono ?_; rintro e w' ⟨rfl, rfl⟩) | (go_at_call 107; with_reducible refine (H.out.2.2.1 _).mono ?_; rintro e w' ⟨rfl, rfl⟩))
          go_ret
          exact ⟨by rw [H.out.2.2.2, HD.out]; rfl, rfl⟩
        · go_enter Try.func111, Try.ntmps111
          go_wp2_with (first | (go_at_call 107; with_reducible refine (H.out.1 _).mono ?_; rintro e w' ⟨rfl, rfl⟩) | (go_at_call 107; with_reducible refine (H.out.2.1 _).mono ?_; rintro e w' ⟨rfl, rfl⟩) | (go_at_call 107; with_reducible refine (H.out.2.2.1 _).mono ?_; rintro e w' ⟨rfl, rfl⟩))
          go_ret
          exact ⟨by rw [H.out.2.2.2, HD.out]; rfl, rfl⟩

set_option maxRecDepth 100000 in
set_option maxHeartbeats 1000000 in
theorem wrong_any (A : Option Addr) (c : Nat) (l : List Cel) (w : World) (hr : Rd w 8 A l.length (cels l)) (hm : l.length ≤ 9223372036854775807) :
    Calls Try.prog 112 #[.slice A l.length c, .func (.func 113) #[] #[]] w fun e w' => e = .returned (.int .i64 (celsE l)) ∧ Below w.heap.size w w' := by
  have HR := Lib.hid hr
  clear hr
  go_enter Try.func112, Try.ntmps112
  go_wp2_with fail
  go_loopw [10] (fun i wr => ∃ k : Nat, k ≤ l.length ∧ i = .int .i64 k ∧ (∀ x ∈ l.take k, celOk x = true) ∧ Below w.heap.size w wr) (fun i _ => l.length - (intOf i).toNat)
  case atStart => exact ⟨0, Nat.zero_le _, rfl, by simp, Below.refl _ _⟩
  case round =>
    obtain ⟨k, hk, rfl, hall, hb⟩ := hrel
    have HB := Lib.hid (And.intro hall hb)
    by_cases hlt : k < l.length
    · obtain ⟨b, off, rfl, zb, hc⟩ := (HR.out.below hb).2 (by omega)
      obtain ⟨x, hx⟩ : ∃ x, x = l[k] := ⟨_, rfl⟩
      obtain ⟨s0, s1, s2, s3, s4, s5, s6, s7⟩ := cels_get hlt
      rw [← hx] at s0 s1 s2 s3 s4 s5 s6 s7
      have c0 := hc _ _ s0
      have c1 : wr.cell? ⟨b, off + k*8 + 1, none⟩ = _ := hc _ _ s1
      have c2 : wr.cell? ⟨b, off + k*8 + 2, none⟩ = _ := hc _ _ s2
      have c3 : wr.cell? ⟨b, off + k*8 + 3, none⟩ = _ := hc _ _ s3
      have c4 : wr.cell? ⟨b, off + k*8 + 4, none⟩ = _ := hc _ _ s4
      have c5 : wr.cell? ⟨b, off + k*8 + 5, none⟩ = _ := hc _ _ s5
      have c6 : wr.cell? ⟨b, off + k*8 + 6, none⟩ = _ := hc _ _ s6
      have c7 : wr.cell? ⟨b, off + k*8 + 7, none⟩ = _ := hc _ _ s7
      have n2 : (k : Int) < (l.length : Int) := by omega
      obtain ⟨er, her⟩ : ∃ er, er = celE x := ⟨_, rfl⟩
      have kc := fun wx => checkCell_any x wx
      rw [← her] at kc
      have bal : Below wr.heap.size wr (wr.alloc (.cells (celA x) 123)) := (Below.refl _ _).alloc (Nat.le_refl _) _
      have HX := Lib.hid (And.intro kc (And.intro her (And.intro hx (hb.trans (bal.mono hb.size)))))
      clear s0 s1 s2 s3 s4 s5 s6 s7 hc kc her hx hall hb bal
      by_cases h0 : er = 0
      · subst h0
        have hok : celOk x = true := by
          have := HX.out.2.1
          unfold celE at this
          split at this
          · assumption
          · cases this
        have HO := Lib.hid hok
        clear hok
        go_wp2_with (go_at_call 113; refine (HX.out.1 _).mono ?_; rintro e w2 ⟨rfl, b2⟩)
        go_roundw
        case measure => simp [intOf]; omega
        case rel =>
          refine ⟨k + 1, by omega, by go_num, fun y hy => ?_, HX.out.2.2.2.trans (b2.mono HX.out.2.2.2.size)⟩
          rw [List.take_succ_eq_append_getElem hlt] at hy
          rcases List.mem_append.1 hy with h | h
          · exact HB.out.1 y h
          · rw [List.mem_singleton.1 h, ← HX.out.2.2.1]; exact HO.out
      · have hne : (er != 0) = true := by simp [h0]
        have HK := Lib.hid h0
        clear h0
        go_wp2_with (go_at_call 113; refine (HX.out.1 _).mono ?_; rintro e w2 ⟨rfl, b2⟩)
        go_ret
        refine ⟨?_, HX.out.2.2.2.trans (b2.mono HX.out.2.2.2.size)⟩
        have hno : ¬ celOk x = true := fun h => HK.out (by rw [HX.out.2.1]; unfold celE; rw [if_pos h])
        have e1 : er = 20 := by rw [HX.out.2.1]; unfold celE; rw [if_neg hno]
        have e2 : celsE l = 20 := by
          unfold celsE
          rw [if_neg]
          intro h
          exact hno (by rw [HX.out.2.2.1]; exact List.all_eq_true.1 h _ (List.getElem_mem hlt))
        rw [e1, e2]; rfl
    · obtain rfl : k = l.length := by omega
      go_wp2_with fail
      go_ret
      refine ⟨?_, HB.out.2⟩
      have e2 : celsE l = 0 := by
        unfold celsE
        rw [if_pos (List.all_eq_true.2 (by have := HB.out.1; rwa [List.take_length] at this))]
      rw [e2]; rfl

theorem size_zero {a b c : Int} (h : sizeE a b c = 0) : (1 ≤ a ∧ a ≤ 64) ∧ (1 ≤ b ∧ b ≤ 64) ∧ 0 ≤ a * b ∧ a * b ≤ 1024 := by
  unfold sizeE at h
  split at h
  · rename_i h1
    simp [sizeOk, within] at h1
    exact ⟨by omega, by omega, Int.mul_nonneg (by omega) (by omega), h1.1.2⟩
  · cases h
set_option maxRecDepth 100000 in
set_option maxHeartbeats 1000000 in
theorem checkChart_any (a b c : Int) (A : Option Addr) (ca : Nat) (l : List Cel) (w : World) (hr : Rd w 8 A l.length (cels l)) (hm : l.length ≤ 9223372036854775807) :
    Calls Try.prog 65 #[.agg #[.int .i64 a, .int .i64 b, .int .i64 c, .slice A l.length ca]] w fun e w' => e = .returned (.int .i64 (chartE a b c l)) ∧ Below w.heap.size w w' := by
  obtain ⟨W, hW⟩ : ∃ W, W = w.alloc (.cells #[.int .i64 a, .int .i64 b, .int .i64 c, .slice A l.length ca] 114) := ⟨_, rfl⟩
  obtain ⟨ib, hib⟩ : ∃ b, b = w.heap.size := ⟨_, rfl⟩
  have hh : W.heap[ib]? = some (.cells #[.int .i64 a, .int .i64 b, .int .i64 c, .slice A l.length ca] 114 (0, 0)) := by rw [hW, hib]; exact heap_alloc_new _ _
  have bW : Below w.heap.size w W := by rw [hW]; exact (Below.refl _ _).alloc (Nat.le_refl _) _
  obtain ⟨er, her⟩ : ∃ er, er = sizeE a b c := ⟨_, rfl⟩
  have ks := size_any a b c W
  rw [← her] at ks
  have kw := wrong_any A ca l W (hr.below bW) hm
  obtain ⟨ew, hew⟩ : ∃ ew, ew = celsE l := ⟨_, rfl⟩
  rw [← hew] at kw
  have c0 := (cell_of_heap hh 0).trans rfl
  have c1 := (cell_of_heap hh 1).trans rfl
  have c2 := (cell_of_heap hh 2).trans rfl
  have c3 := (cell_of_heap hh 3).trans rfl
  have zb := heap_lt hh
  have HR := Lib.hid (And.intro ks (And.intro kw (And.intro bW (And.intro her hew))))
  clear hh bW ks kw her hew hr
  have hC : chartE a b c l = if er ≠ 0 then er else if (l.length : Int) ≠ a * b then 1 else ew := by rw [HR.out.2.2.2.1, HR.out.2.2.2.2]; rfl
  by_cases h0 : er = 0
  · subst h0
    obtain ⟨_, _, p1, p2⟩ := size_zero HR.out.2.2.2.1.symm
    obtain ⟨P, hP⟩ : ∃ P, P = a * b := ⟨_, rfl⟩
    rw [← hP] at hC p1 p2
    have w1 : IntKind.i64.wrap (a * b) = P := by rw [← hP]; exact IntWalk.i64_in _ (by omega)
    have HC := Lib.hid hC
    clear hC hP
    by_cases hl : (l.length : Int) = P
    · have hl' : ((l.length : Int) != P) = false := by simp [hl]
      have HL := Lib.hid hl
      clear hl
      go_enter Try.func65, Try.ntmps65
      go_upto_region 1 with fail
      rw [← hW, ← hib]
      clear hW hib
      go_wp2_with (first | (go_at_call 111; refine HR.out.1.mono ?_; rintro e w' ⟨rfl, rfl⟩) | (go_at_call 112; refine HR.out.2.1.mono ?_; rintro e w2 ⟨rfl, b2⟩))
      go_ret
      exact ⟨by rw [HC.out, if_neg (by omega), if_neg (fun h => h HL.out)]; rfl, HR.out.2.2.1.trans (b2.mono HR.out.2.2.1.size)⟩
    · have hl' : ((l.length : Int) != P) = true := by simp [hl]
      have HL := Lib.hid hl
      clear hl
      go_enter Try.func65, Try.ntmps65
      go_upto_region 1 with fail
      rw [← hW, ← hib]
      clear hW hib
      go_wp2_with (go_at_call 111; refine HR.out.1.mono ?_; rintro e w' ⟨rfl, rfl⟩)
      go_ret
      exact ⟨by rw [HC.out, if_neg (by omega), if_pos HL.out]; rfl, HR.out.2.2.1⟩
  · have hne : (er != 0) = true := by simp [h0]
    have HK := Lib.hid (And.intro h0 hC)
    clear h0 hC
    go_enter Try.func65, Try.ntmps65
    go_upto_region 1 with fail
    rw [← hW, ← hib]
    clear hW hib
    go_wp2_with (go_at_call 111; refine HR.out.1.mono ?_; rintro e w' ⟨rfl, rfl⟩)
    go_ret
    exact ⟨by rw [HK.out.2, if_pos HK.out.1]; rfl, HR.out.2.2.1⟩
end Go.Proofs.Ytfmhlnfcbbpfeaa
/- math/bits.Mul of 1 and a number; ice: whole, each, cell, Whole (printed by wip/tools/icej.py) -/
namespace Go.Proofs.Ytfmhlnfcbbpfeaa
open Go Go.RowKit Go.Lib Sp
set_option linter.unusedVariables false

theorem bitsN (n : Nat) (hn : n < 4294967296) : bits .and .u64 (n : Int) 4294967295 = (n : Int) := by
  have h := bits_and_u64_nat n 4294967295 (by omega) (by omega)
  have e : n &&& 4294967295 = n := by
    have := Nat.and_two_pow_sub_one_eq_mod n 32
    simp only [Nat.reducePow, Nat.reduceSub] at this
    rw [this]; omega
  rw [e] at h
  exact h
set_option maxRecDepth 100000 in
set_option maxHeartbeats 1000000 in
theorem mul64_any (n : Nat) (hn : n < 1000000) (w : World) :
    Calls Try.prog 149 #[.int .u64 1, .int .u64 n] w fun e w' => e = .returned (.tuple #[.int .u64 0, .int .u64 n]) ∧ w = w' := by
  have h1 := bitsN n (by omega)
  have h4 : bits .and .u64 1 4294967295 = 1 := bitsN 1 (by omega)
  have h5 : bits .and .u64 0 4294967295 = 0 := bitsN 0 (by omega)
  have h2 : (n : Int) / 4294967296 = 0 := by omega
  have h3 : IntKind.u64.wrap (n : Int) = (n : Int) := by rw [IntKind.wrap_u64]; omega
  have h6 : IntKind.u64.wrap 0 = 0 := rfl
  go_enter Try.func149, Try.ntmps149
  go_wp2_with fail
  go_ret2
  exact ⟨rfl, rfl⟩
set_option maxRecDepth 100000 in
theorem mul_any (n : Nat) (hn : n < 1000000) (w : World) :
    Calls Try.prog 140 #[.int .u64 1, .int .u64 n] w fun e w' => e = .returned (.tuple #[.int .u64 0, .int .u64 n]) ∧ w = w' := by
  go_enter Try.func140, Try.ntmps140
  go_wp2_with (go_at_call 149; refine (mul64_any n hn _).mono ?_; rintro e w' ⟨rfl, rfl⟩)
  go_ret2
  exact ⟨rfl, rfl⟩

theorem span_results {F : Func} {r : Nat} (hF : F.results = #[.cell r 42]) {W : World} {b : Nat} {x y : Int} (h : W.heap[b]? = some (.cells #[.int .i64 x, .int .i64 y] 42 (0, 0))) (tmps : Array Value) (hr : tmps.getD r undef = .pointer (some ⟨b, 0, none⟩)) :
    (results F tmps).run Try.prog W = .ok (.agg #[.int .i64 x, .int .i64 y]) W := by
  have g4 : tmps[r]?.getD undef = .pointer (some ⟨b, 0, none⟩) := by simpa using hr
  have c0 : W.cell? ⟨b, 0, none⟩ = some (.int .i64 x) := (cell_of_heap h 0).trans rfl
  have c1 : W.cell? ⟨b, 1, none⟩ = some (.int .i64 y) := (cell_of_heap h 1).trans rfl
  simp [results, hF, g4, asAddr, go_sem, c0, c1]
theorem spans_results {F : Func} {r : Nat} (hF : F.results = #[.cell r 188]) {W : World} {b : Nat} {x0 x1 x2 x3 x4 x5 x6 x7 : Int} (h : W.heap[b]? = some (.cells #[.int .i64 x0, .int .i64 x1, .int .i64 x2, .int .i64 x3, .int .i64 x4, .int .i64 x5, .int .i64 x6, .int .i64 x7] 188 (0, 0))) (tmps : Array Value) (hr : tmps.getD r undef = .pointer (some ⟨b, 0, none⟩)) :
    (results F tmps).run Try.prog W = .ok (.agg #[.int .i64 x0, .int .i64 x1, .int .i64 x2, .int .i64 x3, .int .i64 x4, .int .i64 x5, .int .i64 x6, .int .i64 x7]) W := by
  have g4 : tmps[r]?.getD undef = .pointer (some ⟨b, 0, none⟩) := by simpa using hr
  have c0 : W.cell? ⟨b, 0, none⟩ = some (.int .i64 x0) := (cell_of_heap h 0).trans rfl
  have c1 : W.cell? ⟨b, 1, none⟩ = some (.int .i64 x1) := (cell_of_heap h 1).trans rfl
  have c2 : W.cell? ⟨b, 2, none⟩ = some (.int .i64 x2) := (cell_of_heap h 2).trans rfl
  have c3 : W.cell? ⟨b, 3, none⟩ = some (.int .i64 x3) := (cell_of_heap h 3).trans rfl
  have c4 : W.cell? ⟨b, 4, none⟩ = some (.int .i64 x4) := (cell_of_heap h 4).trans rfl
  have c5 : W.cell? ⟨b, 5, none⟩ = some (.int .i64 x5) := (cell_of_heap h 5).trans rfl
  have c6 : W.cell? ⟨b, 6, none⟩ = some (.int .i64 x6) := (cell_of_heap h 6).trans rfl
  have c7 : W.cell? ⟨b, 7, none⟩ = some (.int .i64 x7) := (cell_of_heap h 7).trans rfl
  simp [results, hF, g4, asAddr, go_sem, c0, c1, c2, c3, c4, c5, c6, c7]
theorem celA_results {F : Func} {r : Nat} (hF : F.results = #[.cell r 123]) {W : World} {b : Nat} {x0 x1 x2 x3 x4 x5 x6 x7 : Int} (h : W.heap[b]? = some (.cells #[.int .i64 x0, .int .i64 x1, .int .i64 x2, .int .i64 x3, .int .i64 x4, .int .i64 x5, .int .i64 x6, .int .i64 x7] 123 (0, 0))) (tmps : Array Value) (hr : tmps.getD r undef = .pointer (some ⟨b, 0, none⟩)) :
    (results F tmps).run Try.prog W = .ok (.agg #[.int .i64 x0, .int .i64 x1, .int .i64 x2, .int .i64 x3, .int .i64 x4, .int .i64 x5, .int .i64 x6, .int .i64 x7]) W := by
  have g4 : tmps[r]?.getD undef = .pointer (some ⟨b, 0, none⟩) := by simpa using hr
  have c0 : W.cell? ⟨b, 0, none⟩ = some (.int .i64 x0) := (cell_of_heap h 0).trans rfl
  have c1 : W.cell? ⟨b, 1, none⟩ = some (.int .i64 x1) := (cell_of_heap h 1).trans rfl
  have c2 : W.cell? ⟨b, 2, none⟩ = some (.int .i64 x2) := (cell_of_heap h 2).trans rfl
  have c3 : W.cell? ⟨b, 3, none⟩ = some (.int .i64 x3) := (cell_of_heap h 3).trans rfl
  have c4 : W.cell? ⟨b, 4, none⟩ = some (.int .i64 x4) := (cell_of_heap h 4).trans rfl
  have c5 : W.cell? ⟨b, 5, none⟩ = some (.int .i64 x5) := (cell_of_heap h 5).trans rfl
  have c6 : W.cell? ⟨b, 6, none⟩ = some (.int .i64 x6) := (cell_of_heap h 6).trans rfl
  have c7 : W.cell? ⟨b, 7, none⟩ = some (.int .i64 x7) := (cell_of_heap h 7).trans rfl
  simp [results, hF, g4, asAddr, go_sem, c0, c1, c2, c3, c4, c5, c6, c7]

def wholeS (k : Nat) : Int × Int := (0, mostN k)
set_option maxRecDepth 100000 in
theorem whole1_any (k : Nat) (hk : k < 4) (w : World) :
    Calls Try.prog 150 #[.int .i64 k] w fun e w' => e = .returned (.agg #[.int .i64 (wholeS k).1, .int .i64 (wholeS k).2]) ∧ Below w.heap.size w w' := by
  have h0 := fun w => (most_index w).1.1
  have h1 := fun w => (most_index w).1.2
  have h2 := fun w => (most_index w).2.1
  have h3 := fun w => (most_index w).2.2
  obtain ⟨W, hW⟩ : ∃ W, W = w.alloc (.cells #[.int .i64 0, .int .i64 0] 42) := ⟨_, rfl⟩
  obtain ⟨rb, hrb⟩ : ∃ b, b = w.heap.size := ⟨_, rfl⟩
  have hh : W.heap[rb]? = some (.cells #[.int .i64 0, .int .i64 0] 42 (0, 0)) := by rw [hW, hrb]; exact heap_alloc_new _ _
  have bW : Below w.heap.size w W := by rw [hW]; exact (Below.refl _ _).alloc (Nat.le_refl _) _
  have hrw : w.heap.size ≤ rb := by omega
  have HR := Lib.hid (And.intro hh (And.intro bW hrw))
  clear hh bW hrw
  rcases (by omega : k = 0 ∨ k = 1 ∨ k = 2 ∨ k = 3) with rfl | rfl | rfl | rfl
  · show Calls Try.prog 150 #[.int .i64 0] w fun e w' => e = .returned (.agg #[.int .i64 0, .int .i64 100]) ∧ Below w.heap.size w w'
    go_enter Try.func150, Try.ntmps150
    go_upto_region 1 with fail
    rw [← hW, ← hrb]
    clear hW hrb
    go_wp2_with fail
    refine (most_any _).mono ?_
    rintro e w2 ⟨rfl, b2⟩
    have hh := (b2.block _ (heap_lt HR.out.1)).trans HR.out.1
    have c0 := (cell_of_heap hh 0).trans rfl
    have c1 := (cell_of_heap hh 1).trans rfl
    have f0 := frozen_of_heap hh 0
    have f1 := frozen_of_heap hh 1
    have zo := heap_lt hh
    have H3 := Lib.hid (And.intro hh (HR.out.2.1.trans (b2.mono HR.out.2.1.size)))
    clear hh b2
    go_wp2_with fail
    exact bodyPost_ret (span_results (r := 2) rfl (heap_set (heap_set H3.out.1 0 _) 1 _) _ rfl) rfl ⟨rfl, (H3.out.2.setCell HR.out.2.2 _).setCell HR.out.2.2 _⟩
  · show Calls Try.prog 150 #[.int .i64 1] w fun e w' => e = .returned (.agg #[.int .i64 0, .int .i64 400]) ∧ Below w.heap.size w w'
    go_enter Try.func150, Try.ntmps150
    go_upto_region 1 with fail
    rw [← hW, ← hrb]
    clear hW hrb
    go_wp2_with fail
    refine (most_any _).mono ?_
    rintro e w2 ⟨rfl, b2⟩
    have hh := (b2.block _ (heap_lt HR.out.1)).trans HR.out.1
    have c0 := (cell_of_heap hh 0).trans rfl
    have c1 := (cell_of_heap hh 1).trans rfl
    have f0 := frozen_of_heap hh 0
    have f1 := frozen_of_heap hh 1
    have zo := heap_lt hh
    have H3 := Lib.hid (And.intro hh (HR.out.2.1.trans (b2.mono HR.out.2.1.size)))
    clear hh b2
    go_wp2_with fail
    exact bodyPost_ret (span_results (r := 2) rfl (heap_set (heap_set H3.out.1 0 _) 1 _) _ rfl) rfl ⟨rfl, (H3.out.2.setCell HR.out.2.2 _).setCell HR.out.2.2 _⟩
  · show Calls Try.prog 150 #[.int .i64 2] w fun e w' => e = .returned (.agg #[.int .i64 0, .int .i64 100]) ∧ Below w.heap.size w w'
    go_enter Try.func150, Try.ntmps150
    go_upto_region 1 with fail
    rw [← hW, ← hrb]
    clear hW hrb
    go_wp2_with fail
    refine (most_any _).mono ?_
    rintro e w2 ⟨rfl, b2⟩
    have hh := (b2.block _ (heap_lt HR.out.1)).trans HR.out.1
    have c0 := (cell_of_heap hh 0).trans rfl
    have c1 := (cell_of_heap hh 1).trans rfl
    have f0 := frozen_of_heap hh 0
    have f1 := frozen_of_heap hh 1
    have zo := heap_lt hh
    have H3 := Lib.hid (And.intro hh (HR.out.2.1.trans (b2.mono HR.out.2.1.size)))
    clear hh b2
    go_wp2_with fail
    exact bodyPost_ret (span_results (r := 2) rfl (heap_set (heap_set H3.out.1 0 _) 1 _) _ rfl) rfl ⟨rfl, (H3.out.2.setCell HR.out.2.2 _).setCell HR.out.2.2 _⟩
  · show Calls Try.prog 150 #[.int .i64 3] w fun e w' => e = .returned (.agg #[.int .i64 0, .int .i64 3]) ∧ Below w.heap.size w w'
    go_enter Try.func150, Try.ntmps150
    go_upto_region 1 with fail
    rw [← hW, ← hrb]
    clear hW hrb
    go_wp2_with fail
    refine (most_any _).mono ?_
    rintro e w2 ⟨rfl, b2⟩
    have hh := (b2.block _ (heap_lt HR.out.1)).trans HR.out.1
    have c0 := (cell_of_heap hh 0).trans rfl
    have c1 := (cell_of_heap hh 1).trans rfl
    have f0 := frozen_of_heap hh 0
    have f1 := frozen_of_heap hh 1
    have zo := heap_lt hh
    have H3 := Lib.hid (And.intro hh (HR.out.2.1.trans (b2.mono HR.out.2.1.size)))
    clear hh b2
    go_wp2_with fail
    exact bodyPost_ret (span_results (r := 2) rfl (heap_set (heap_set H3.out.1 0 _) 1 _) _ rfl) rfl ⟨rfl, (H3.out.2.setCell HR.out.2.2 _).setCell HR.out.2.2 _⟩

def eachWA (g : Nat → Int × Int) : Nat → Array Value
  | 0 => #[.int .i64 0, .int .i64 0, .int .i64 0, .int .i64 0, .int .i64 0, .int .i64 0, .int .i64 0, .int .i64 0]
  | 1 => #[.int .i64 (g 0).1, .int .i64 (g 0).2, .int .i64 0, .int .i64 0, .int .i64 0, .int .i64 0, .int .i64 0, .int .i64 0]
  | 2 => #[.int .i64 (g 0).1, .int .i64 (g 0).2, .int .i64 (g 1).1, .int .i64 (g 1).2, .int .i64 0, .int .i64 0, .int .i64 0, .int .i64 0]
  | 3 => #[.int .i64 (g 0).1, .int .i64 (g 0).2, .int .i64 (g 1).1, .int .i64 (g 1).2, .int .i64 (g 2).1, .int .i64 (g 2).2, .int .i64 0, .int .i64 0]
  | _ => #[.int .i64 (g 0).1, .int .i64 (g 0).2, .int .i64 (g 1).1, .int .i64 (g 1).2, .int .i64 (g 2).1, .int .i64 (g 2).2, .int .i64 (g 3).1, .int .i64 (g 3).2]
set_option maxRecDepth 100000 in
set_option maxHeartbeats 2000000 in
theorem eachW  (g : Nat → Int × Int) (w : World) (hg : ∀ k : Nat, k < 4 → ∀ wx, Below w.heap.size w wx → Calls Try.prog 150 #[.int .i64 k] wx fun e w' => e = .returned (.agg #[.int .i64 (g k).1, .int .i64 (g k).2]) ∧ Below wx.heap.size wx w') :
    Calls Try.prog 144 #[.func (.func 150) #[] #[]] w fun e w' => e = .returned (.agg #[.int .i64 (g 0).1, .int .i64 (g 0).2, .int .i64 (g 1).1, .int .i64 (g 1).2, .int .i64 (g 2).1, .int .i64 (g 2).2, .int .i64 (g 3).1, .int .i64 (g 3).2]) ∧ Below w.heap.size w w' := by
  obtain ⟨W, hW⟩ : ∃ W, W = (w.alloc (.cells #[.int .i64 0, .int .i64 0, .int .i64 0, .int .i64 0, .int .i64 0, .int .i64 0, .int .i64 0, .int .i64 0] 188)).alloc (.cells #[.int .i64 0, .int .i64 0, .int .i64 0, .int .i64 0, .int .i64 0, .int .i64 0, .int .i64 0, .int .i64 0] 188) := ⟨_, rfl⟩
  obtain ⟨rb, hrb⟩ : ∃ b, b = w.heap.size := ⟨_, rfl⟩
  obtain ⟨ob, hob⟩ : ∃ b, b = w.heap.size + 1 := ⟨_, rfl⟩
  have hrh : W.heap[rb]? = some (.cells #[.int .i64 0, .int .i64 0, .int .i64 0, .int .i64 0, .int .i64 0, .int .i64 0, .int .i64 0, .int .i64 0] 188 (0, 0)) := by rw [hW, hrb]; exact heap_alloc' (heap_alloc_new _ _) _
  have hoh : W.heap[ob]? = some (.cells #[.int .i64 0, .int .i64 0, .int .i64 0, .int .i64 0, .int .i64 0, .int .i64 0, .int .i64 0, .int .i64 0] 188 (0, 0)) := by
    rw [hW, hob]
    have := heap_alloc_new (w.alloc (.cells #[.int .i64 0, .int .i64 0, .int .i64 0, .int .i64 0, .int .i64 0, .int .i64 0, .int .i64 0, .int .i64 0] 188)) (.cells #[.int .i64 0, .int .i64 0, .int .i64 0, .int .i64 0, .int .i64 0, .int .i64 0, .int .i64 0, .int .i64 0] 188)
    rwa [World.size_alloc] at this
  have bW : Below w.heap.size w W := by rw [hW]; exact ((Below.refl _ _).alloc (Nat.le_refl _) _).alloc (by simp) _
  have hrw : w.heap.size ≤ rb := by omega
  have how : w.heap.size ≤ ob := by omega
  have hne : rb ≠ ob := by omega
  have HR := Lib.hid (And.intro hrh (And.intro hoh (And.intro bW (And.intro hne hg))))
  clear hrh hoh bW hne hg
  go_enter Try.func144, Try.ntmps144
  go_upto_region 2 with fail
  rw [← hW, ← hob, ← hrb]
  clear hW hob hrb
  go_wp2_with fail
  go_loopw [5] (fun i wr => ∃ k : Nat, k ≤ 4 ∧ i = .int .i64 k ∧ wr.heap[ob]? = some (.cells (eachWA g k) 188 (0, 0)) ∧ Keep [ob] W wr) (fun i _ => 4 - (intOf i).toNat)
  case atStart => exact ⟨0, by omega, rfl, HR.out.2.1, Keep.refl _ _⟩
  case round =>
    obtain ⟨k, hk, rfl, hh, hK⟩ := hrel
    have bw : Below w.heap.size w wr := HR.out.2.2.1.trans (hK.below HR.out.2.2.1.size (by simpa using how))
    have HB := Lib.hid (And.intro hh (And.intro hK bw))
    clear hh hK bw
    rcases (by omega : k = 0 ∨ k = 1 ∨ k = 2 ∨ k = 3 ∨ k = 4) with rfl | rfl | rfl | rfl | rfl
    · have hc := HR.out.2.2.2.2 0 (by omega) wr HB.out.2.2
      obtain ⟨x, y, hxy⟩ : ∃ x y : Int, g 0 = (x, y) := ⟨_, _, rfl⟩
      rw [hxy] at hc
      have HC := Lib.hid (And.intro hc hxy)
      clear hc hxy
      go_wp2_with fail
      refine HC.out.1.mono ?_
      rintro e w2 ⟨rfl, b2⟩
      have hh2 : w2.heap[ob]? = some (.cells #[.int .i64 0, .int .i64 0, .int .i64 0, .int .i64 0, .int .i64 0, .int .i64 0, .int .i64 0, .int .i64 0] 188 (0, 0)) := (b2.block _ (heap_lt HB.out.1)).trans HB.out.1
      have c0 := (cell_of_heap hh2 0).trans rfl
      have c1 := (cell_of_heap hh2 1).trans rfl
      have f0 := frozen_of_heap hh2 0
      have f1 := frozen_of_heap hh2 1
      have zo := heap_lt hh2
      have hh3 : ((w2.setCell ⟨ob, 0, none⟩ (.int .i64 x)).setCell ⟨ob, 1, none⟩ (.int .i64 y)).heap[ob]? = some (.cells (eachWA g 1) 188 (0, 0)) := by
        have := heap_set (heap_set hh2 0 (.int .i64 x)) 1 (.int .i64 y)
        rw [this]
        simp [eachWA, HC.out.2]
      have hK3 : Keep [ob] W ((w2.setCell ⟨ob, 0, none⟩ (.int .i64 x)).setCell ⟨ob, 1, none⟩ (.int .i64 y)) := ((HB.out.2.1.trans (Keep.of_below (S := []) b2) (by simp)).setCell (.inl (by simp)) _).setCell (.inl (by simp)) _
      have H3 := Lib.hid (And.intro hh3 hK3)
      clear hh2 hh3 hK3 b2
      go_wp2_with fail
      go_roundw
      case measure => simp [intOf]
      case rel => exact ⟨1, by omega, rfl, H3.out.1, H3.out.2⟩
    · have hc := HR.out.2.2.2.2 1 (by omega) wr HB.out.2.2
      obtain ⟨x, y, hxy⟩ : ∃ x y : Int, g 1 = (x, y) := ⟨_, _, rfl⟩
      rw [hxy] at hc
      have HC := Lib.hid (And.intro hc hxy)
      clear hc hxy
      go_wp2_with fail
      refine HC.out.1.mono ?_
      rintro e w2 ⟨rfl, b2⟩
      have hh2 : w2.heap[ob]? = some (.cells #[.int .i64 (g 0).1, .int .i64 (g 0).2, .int .i64 0, .int .i64 0, .int .i64 0, .int .i64 0, .int .i64 0, .int .i64 0] 188 (0, 0)) := (b2.block _ (heap_lt HB.out.1)).trans HB.out.1
      have c0 := (cell_of_heap hh2 2).trans rfl
      have c1 := (cell_of_heap hh2 3).trans rfl
      have f0 := frozen_of_heap hh2 2
      have f1 := frozen_of_heap hh2 3
      have zo := heap_lt hh2
      have hh3 : ((w2.setCell ⟨ob, 2, none⟩ (.int .i64 x)).setCell ⟨ob, 3, none⟩ (.int .i64 y)).heap[ob]? = some (.cells (eachWA g 2) 188 (0, 0)) := by
        have := heap_set (heap_set hh2 2 (.int .i64 x)) 3 (.int .i64 y)
        rw [this]
        simp [eachWA, HC.out.2]
      have hK3 : Keep [ob] W ((w2.setCell ⟨ob, 2, none⟩ (.int .i64 x)).setCell ⟨ob, 3, none⟩ (.int .i64 y)) := ((HB.out.2.1.trans (Keep.of_below (S := []) b2) (by simp)).setCell (.inl (by simp)) _).setCell (.inl (by simp)) _
      have H3 := Lib.hid (And.intro hh3 hK3)
      clear hh2 hh3 hK3 b2
      go_wp2_with fail
      go_roundw
      case measure => simp [intOf]
      case rel => exact ⟨2, by omega, rfl, H3.out.1, H3.out.2⟩
    · have hc := HR.out.2.2.2.2 2 (by omega) wr HB.out.2.2
      obtain ⟨x, y, hxy⟩ : ∃ x y : Int, g 2 = (x, y) := ⟨_, _, rfl⟩
      rw [hxy] at hc
      have HC := Lib.hid (And.intro hc hxy)
      clear hc hxy
      go_wp2_with fail
      refine HC.out.1.mono ?_
      rintro e w2 ⟨rfl, b2⟩
      have hh2 : w2.heap[ob]? = some (.cells #[.int .i64 (g 0).1, .int .i64 (g 0).2, .int .i64 (g 1).1, .int .i64 (g 1).2, .int .i64 0, .int .i64 0, .int .i64 0, .int .i64 0] 188 (0, 0)) := (b2.block _ (heap_lt HB.out.1)).trans HB.out.1
      have c0 := (cell_of_heap hh2 4).trans rfl
      have c1 := (cell_of_heap hh2 5).trans rfl
      have f0 := frozen_of_heap hh2 4
      have f1 := frozen_of_heap hh2 5
      have zo := heap_lt hh2
      have hh3 : ((w2.setCell ⟨ob, 4, none⟩ (.int .i64 x)).setCell ⟨ob, 5, none⟩ (.int .i64 y)).heap[ob]? = some (.cells (eachWA g 3) 188 (0, 0)) := by
        have := heap_set (heap_set hh2 4 (.int .i64 x)) 5 (.int .i64 y)
        rw [this]
        simp [eachWA, HC.out.2]
      have hK3 : Keep [ob] W ((w2.setCell ⟨ob, 4, none⟩ (.int .i64 x)).setCell ⟨ob, 5, none⟩ (.int .i64 y)) := ((HB.out.2.1.trans (Keep.of_below (S := []) b2) (by simp)).setCell (.inl (by simp)) _).setCell (.inl (by simp)) _
      have H3 := Lib.hid (And.intro hh3 hK3)
      clear hh2 hh3 hK3 b2
      go_wp2_with fail
      go_roundw
      case measure => simp [intOf]
      case rel => exact ⟨3, by omega, rfl, H3.out.1, H3.out.2⟩
    · have hc := HR.out.2.2.2.2 3 (by omega) wr HB.out.2.2
      obtain ⟨x, y, hxy⟩ : ∃ x y : Int, g 3 = (x, y) := ⟨_, _, rfl⟩
      rw [hxy] at hc
      have HC := Lib.hid (And.intro hc hxy)
      clear hc hxy
      go_wp2_with fail
      refine HC.out.1.mono ?_
      rintro e w2 ⟨rfl, b2⟩
      have hh2 : w2.heap[ob]? = some (.cells #[.int .i64 (g 0).1, .int .i64 (g 0).2, .int .i64 (g 1).1, .int .i64 (g 1).2, .int .i64 (g 2).1, .int .i64 (g 2).2, .int .i64 0, .int .i64 0] 188 (0, 0)) := (b2.block _ (heap_lt HB.out.1)).trans HB.out.1
      have c0 := (cell_of_heap hh2 6).trans rfl
      have c1 := (cell_of_heap hh2 7).trans rfl
      have f0 := frozen_of_heap hh2 6
      have f1 := frozen_of_heap hh2 7
      have zo := heap_lt hh2
      have hh3 : ((w2.setCell ⟨ob, 6, none⟩ (.int .i64 x)).setCell ⟨ob, 7, none⟩ (.int .i64 y)).heap[ob]? = some (.cells (eachWA g 4) 188 (0, 0)) := by
        have := heap_set (heap_set hh2 6 (.int .i64 x)) 7 (.int .i64 y)
        rw [this]
        simp [eachWA, HC.out.2]
      have hK3 : Keep [ob] W ((w2.setCell ⟨ob, 6, none⟩ (.int .i64 x)).setCell ⟨ob, 7, none⟩ (.int .i64 y)) := ((HB.out.2.1.trans (Keep.of_below (S := []) b2) (by simp)).setCell (.inl (by simp)) _).setCell (.inl (by simp)) _
      have H3 := Lib.hid (And.intro hh3 hK3)
      clear hh2 hh3 hK3 b2
      go_wp2_with fail
      go_roundw
      case measure => simp [intOf]
      case rel => exact ⟨4, by omega, rfl, H3.out.1, H3.out.2⟩
    · have hh : wr.heap[ob]? = some (.cells #[.int .i64 (g 0).1, .int .i64 (g 0).2, .int .i64 (g 1).1, .int .i64 (g 1).2, .int .i64 (g 2).1, .int .i64 (g 2).2, .int .i64 (g 3).1, .int .i64 (g 3).2] 188 (0, 0)) := HB.out.1
      have hr : wr.heap[rb]? = some (.cells #[.int .i64 0, .int .i64 0, .int .i64 0, .int .i64 0, .int .i64 0, .int .i64 0, .int .i64 0, .int .i64 0] 188 (0, 0)) := (HB.out.2.1.block _ (heap_lt HR.out.1) (by simpa using HR.out.2.2.2.1)).trans HR.out.1
      have c0 := (cell_of_heap hh 0).trans rfl
      have c1 := (cell_of_heap hh 1).trans rfl
      have c2 := (cell_of_heap hh 2).trans rfl
      have c3 := (cell_of_heap hh 3).trans rfl
      have c4 := (cell_of_heap hh 4).trans rfl
      have c5 := (cell_of_heap hh 5).trans rfl
      have c6 := (cell_of_heap hh 6).trans rfl
      have c7 := (cell_of_heap hh 7).trans rfl
      have r0 := (cell_of_heap hr 0).trans rfl
      have f0 := frozen_of_heap hr 0
      have r1 := (cell_of_heap hr 1).trans rfl
      have f1 := frozen_of_heap hr 1
      have r2 := (cell_of_heap hr 2).trans rfl
      have f2 := frozen_of_heap hr 2
      have r3 := (cell_of_heap hr 3).trans rfl
      have f3 := frozen_of_heap hr 3
      have r4 := (cell_of_heap hr 4).trans rfl
      have f4 := frozen_of_heap hr 4
      have r5 := (cell_of_heap hr 5).trans rfl
      have f5 := frozen_of_heap hr 5
      have r6 := (cell_of_heap hr 6).trans rfl
      have f6 := frozen_of_heap hr 6
      have r7 := (cell_of_heap hr 7).trans rfl
      have f7 := frozen_of_heap hr 7
      have zo := heap_lt hh
      have zr := heap_lt hr
      have hfin : ((((((((wr.setCell ⟨rb, 0, none⟩ (.int .i64 (g 0).1)).setCell ⟨rb, 1, none⟩ (.int .i64 (g 0).2)).setCell ⟨rb, 2, none⟩ (.int .i64 (g 1).1)).setCell ⟨rb, 3, none⟩ (.int .i64 (g 1).2)).setCell ⟨rb, 4, none⟩ (.int .i64 (g 2).1)).setCell ⟨rb, 5, none⟩ (.int .i64 (g 2).2)).setCell ⟨rb, 6, none⟩ (.int .i64 (g 3).1)).setCell ⟨rb, 7, none⟩ (.int .i64 (g 3).2)).heap[rb]? = some (.cells #[.int .i64 (g 0).1, .int .i64 (g 0).2, .int .i64 (g 1).1, .int .i64 (g 1).2, .int .i64 (g 2).1, .int .i64 (g 2).2, .int .i64 (g 3).1, .int .i64 (g 3).2] 188 (0, 0)) := (heap_set (heap_set (heap_set (heap_set (heap_set (heap_set (heap_set (heap_set hr 0 (.int .i64 (g 0).1)) 1 (.int .i64 (g 0).2)) 2 (.int .i64 (g 1).1)) 3 (.int .i64 (g 1).2)) 4 (.int .i64 (g 2).1)) 5 (.int .i64 (g 2).2)) 6 (.int .i64 (g 3).1)) 7 (.int .i64 (g 3).2))
      have H3 := Lib.hid (And.intro hfin ((((((((HB.out.2.2.setCell (p := ⟨rb, 0, none⟩) hrw (.int .i64 (g 0).1)).setCell (p := ⟨rb, 1, none⟩) hrw (.int .i64 (g 0).2)).setCell (p := ⟨rb, 2, none⟩) hrw (.int .i64 (g 1).1)).setCell (p := ⟨rb, 3, none⟩) hrw (.int .i64 (g 1).2)).setCell (p := ⟨rb, 4, none⟩) hrw (.int .i64 (g 2).1)).setCell (p := ⟨rb, 5, none⟩) hrw (.int .i64 (g 2).2)).setCell (p := ⟨rb, 6, none⟩) hrw (.int .i64 (g 3).1)).setCell (p := ⟨rb, 7, none⟩) hrw (.int .i64 (g 3).2)))
      clear hh hr hfin
      go_wp2_with fail
      exact bodyPost_ret (spans_results (r := 2) rfl H3.out.1 _ rfl) rfl ⟨rfl, H3.out.2⟩

end Go.Proofs.Ytfmhlnfcbbpfeaa
/- ice: whole, cell, Whole -/
namespace Go.Proofs.Ytfmhlnfcbbpfeaa
open Go Go.RowKit Go.Lib Sp
set_option linter.unusedVariables false

def celW : Cel := ⟨0, 100, 0, 400, 0, 100, 0, 3⟩
set_option maxRecDepth 100000 in
theorem whole_any (w : World) :
    Calls Try.prog 141 #[] w fun e w' => e = .returned (.agg #[.int .i64 0, .int .i64 100, .int .i64 0, .int .i64 400, .int .i64 0, .int .i64 100, .int .i64 0, .int .i64 3]) ∧ Below w.heap.size w w' := by
  have h0 : ∀ wx, Calls Try.prog 144 #[.func (.func 150) #[] #[]] wx fun e w' => e = .returned (.agg #[.int .i64 0, .int .i64 100, .int .i64 0, .int .i64 400, .int .i64 0, .int .i64 100, .int .i64 0, .int .i64 3]) ∧ Below wx.heap.size wx w' := fun wx => eachW wholeS wx (fun (k : Nat) hk wy _ => whole1_any k hk wy)
  have H := Lib.hid h0
  clear h0
  obtain ⟨W, hW⟩ : ∃ W, W = w.alloc (.cells #[.int .i64 0, .int .i64 0, .int .i64 0, .int .i64 0, .int .i64 0, .int .i64 0, .int .i64 0, .int .i64 0] 188) := ⟨_, rfl⟩
  obtain ⟨rb, hrb⟩ : ∃ b, b = w.heap.size := ⟨_, rfl⟩
  have hh : W.heap[rb]? = some (.cells #[.int .i64 0, .int .i64 0, .int .i64 0, .int .i64 0, .int .i64 0, .int .i64 0, .int .i64 0, .int .i64 0] 188 (0, 0)) := by rw [hW, hrb]; exact heap_alloc_new _ _
  have bW : Below w.heap.size w W := by rw [hW]; exact (Below.refl _ _).alloc (Nat.le_refl _) _
  have hrw : w.heap.size ≤ rb := by omega
  have HR := Lib.hid (And.intro hh (And.intro bW hrw))
  clear hh bW hrw
  go_enter Try.func141, Try.ntmps141
  go_upto_region 1 with fail
  rw [← hW, ← hrb]
  clear hW hrb
  go_wp2_with fail
  refine (H.out _).mono ?_
  rintro e w2 ⟨rfl, b2⟩
  have hh := (b2.block _ (heap_lt HR.out.1)).trans HR.out.1
  have c0 := (cell_of_heap hh 0).trans rfl
  have c1 := (cell_of_heap hh 1).trans rfl
  have c2 := (cell_of_heap hh 2).trans rfl
  have c3 := (cell_of_heap hh 3).trans rfl
  have c4 := (cell_of_heap hh 4).trans rfl
  have c5 := (cell_of_heap hh 5).trans rfl
  have c6 := (cell_of_heap hh 6).trans rfl
  have c7 := (cell_of_heap hh 7).trans rfl
  have f0 := frozen_of_heap hh 0
  have f1 := frozen_of_heap hh 1
  have f2 := frozen_of_heap hh 2
  have f3 := frozen_of_heap hh 3
  have f4 := frozen_of_heap hh 4
  have f5 := frozen_of_heap hh 5
  have f6 := frozen_of_heap hh 6
  have f7 := frozen_of_heap hh 7
  have zo := heap_lt hh
  have hfin : ((((((((w2.setCell ⟨rb, 0, none⟩ (.int .i64 0)).setCell ⟨rb, 1, none⟩ (.int .i64 100)).setCell ⟨rb, 2, none⟩ (.int .i64 0)).setCell ⟨rb, 3, none⟩ (.int .i64 400)).setCell ⟨rb, 4, none⟩ (.int .i64 0)).setCell ⟨rb, 5, none⟩ (.int .i64 100)).setCell ⟨rb, 6, none⟩ (.int .i64 0)).setCell ⟨rb, 7, none⟩ (.int .i64 3)).heap[rb]? = some (.cells #[.int .i64 0, .int .i64 100, .int .i64 0, .int .i64 400, .int .i64 0, .int .i64 100, .int .i64 0, .int .i64 3] 188 (0, 0)) := (heap_set (heap_set (heap_set (heap_set (heap_set (heap_set (heap_set (heap_set hh 0 (.int .i64 0)) 1 (.int .i64 100)) 2 (.int .i64 0)) 3 (.int .i64 400)) 4 (.int .i64 0)) 5 (.int .i64 100)) 6 (.int .i64 0)) 7 (.int .i64 3))
  have H3 := Lib.hid (And.intro hfin (((((((((HR.out.2.1.trans (b2.mono HR.out.2.1.size)).setCell (p := ⟨rb, 0, none⟩) HR.out.2.2 (.int .i64 0)).setCell (p := ⟨rb, 1, none⟩) HR.out.2.2 (.int .i64 100)).setCell (p := ⟨rb, 2, none⟩) HR.out.2.2 (.int .i64 0)).setCell (p := ⟨rb, 3, none⟩) HR.out.2.2 (.int .i64 400)).setCell (p := ⟨rb, 4, none⟩) HR.out.2.2 (.int .i64 0)).setCell (p := ⟨rb, 5, none⟩) HR.out.2.2 (.int .i64 100)).setCell (p := ⟨rb, 6, none⟩) HR.out.2.2 (.int .i64 0)).setCell (p := ⟨rb, 7, none⟩) HR.out.2.2 (.int .i64 3)))
  clear hfin
  clear hh b2
  go_wp2_with fail
  exact bodyPost_ret (spans_results (r := 0) rfl H3.out.1 _ rfl) rfl ⟨rfl, H3.out.2⟩

set_option maxRecDepth 100000 in
theorem cell_any (x : Cel) (w : World) :
    Calls Try.prog 125 #[.agg (celA x)] w fun e w' => e = .returned (.agg (celA x)) ∧ Below w.heap.size w w' := by
  go_enter Try.func125, Try.ntmps125
  go_wp2_with fail
  exact bodyPost_ret (v := .agg (celA x)) (by simp [results, Try.results125, go_sem]) rfl ⟨rfl, ((Below.refl _ _).alloc (Nat.le_refl _) _).alloc (by simp) _⟩
set_option maxRecDepth 100000 in
theorem Whole_any (w : World) :
    Calls Try.prog 116 #[] w fun e w' => e = .returned (.agg #[.int .i64 0, .int .i64 100, .int .i64 0, .int .i64 400, .int .i64 0, .int .i64 100, .int .i64 0, .int .i64 3]) ∧ Below w.heap.size w w' := by
  have h0 : ∀ wx, Calls Try.prog 125 #[.agg #[.int .i64 0, .int .i64 100, .int .i64 0, .int .i64 400, .int .i64 0, .int .i64 100, .int .i64 0, .int .i64 3]] wx fun e w' => e = .returned (.agg #[.int .i64 0, .int .i64 100, .int .i64 0, .int .i64 400, .int .i64 0, .int .i64 100, .int .i64 0, .int .i64 3]) ∧ Below wx.heap.size wx w' := fun wx => cell_any celW wx
  have H := Lib.hid h0
  clear h0
  obtain ⟨W, hW⟩ : ∃ W, W = w.alloc (.cells #[.int .i64 0, .int .i64 0, .int .i64 0, .int .i64 0, .int .i64 0, .int .i64 0, .int .i64 0, .int .i64 0] 123) := ⟨_, rfl⟩
  obtain ⟨rb, hrb⟩ : ∃ b, b = w.heap.size := ⟨_, rfl⟩
  have hh : W.heap[rb]? = some (.cells #[.int .i64 0, .int .i64 0, .int .i64 0, .int .i64 0, .int .i64 0, .int .i64 0, .int .i64 0, .int .i64 0] 123 (0, 0)) := by rw [hW, hrb]; exact heap_alloc_new _ _
  have bW : Below w.heap.size w W := by rw [hW]; exact (Below.refl _ _).alloc (Nat.le_refl _) _
  have hrw : w.heap.size ≤ rb := by omega
  have HR := Lib.hid (And.intro hh (And.intro bW hrw))
  clear hh bW hrw
  go_enter Try.func116, Try.ntmps116
  go_upto_region 1 with fail
  rw [← hW, ← hrb]
  clear hW hrb
  go_wp2_with fail
  refine (whole_any _).mono ?_
  rintro e w1 ⟨rfl, b1⟩
  go_wp2_with fail
  refine (H.out _).mono ?_
  rintro e w2 ⟨rfl, b2⟩
  have b12 := b1.trans (b2.mono b1.size)
  have hh := (b12.block _ (heap_lt HR.out.1)).trans HR.out.1
  have c0 := (cell_of_heap hh 0).trans rfl
  have c1 := (cell_of_heap hh 1).trans rfl
  have c2 := (cell_of_heap hh 2).trans rfl
  have c3 := (cell_of_heap hh 3).trans rfl
  have c4 := (cell_of_heap hh 4).trans rfl
  have c5 := (cell_of_heap hh 5).trans rfl
  have c6 := (cell_of_heap hh 6).trans rfl
  have c7 := (cell_of_heap hh 7).trans rfl
  have f0 := frozen_of_heap hh 0
  have f1 := frozen_of_heap hh 1
  have f2 := frozen_of_heap hh 2
  have f3 := frozen_of_heap hh 3
  have f4 := frozen_of_heap hh 4
  have f5 := frozen_of_heap hh 5
  have f6 := frozen_of_heap hh 6
  have f7 := frozen_of_heap hh 7
  have zo := heap_lt hh
  have hfin : ((((((((w2.setCell ⟨rb, 0, none⟩ (.int .i64 0)).setCell ⟨rb, 1, none⟩ (.int .i64 100)).setCell ⟨rb, 2, none⟩ (.int .i64 0)).setCell ⟨rb, 3, none⟩ (.int .i64 400)).setCell ⟨rb, 4, none⟩ (.int .i64 0)).setCell ⟨rb, 5, none⟩ (.int .i64 100)).setCell ⟨rb, 6, none⟩ (.int .i64 0)).setCell ⟨rb, 7, none⟩ (.int .i64 3)).heap[rb]? = some (.cells #[.int .i64 0, .int .i64 100, .int .i64 0, .int .i64 400, .int .i64 0, .int .i64 100, .int .i64 0, .int .i64 3] 123 (0, 0)) := (heap_set (heap_set (heap_set (heap_set (heap_set (heap_set (heap_set (heap_set hh 0 (.int .i64 0)) 1 (.int .i64 100)) 2 (.int .i64 0)) 3 (.int .i64 400)) 4 (.int .i64 0)) 5 (.int .i64 100)) 6 (.int .i64 0)) 7 (.int .i64 3))
  have H3 := Lib.hid (And.intro hfin (((((((((HR.out.2.1.trans (b12.mono HR.out.2.1.size)).setCell (p := ⟨rb, 0, none⟩) HR.out.2.2 (.int .i64 0)).setCell (p := ⟨rb, 1, none⟩) HR.out.2.2 (.int .i64 100)).setCell (p := ⟨rb, 2, none⟩) HR.out.2.2 (.int .i64 0)).setCell (p := ⟨rb, 3, none⟩) HR.out.2.2 (.int .i64 400)).setCell (p := ⟨rb, 4, none⟩) HR.out.2.2 (.int .i64 0)).setCell (p := ⟨rb, 5, none⟩) HR.out.2.2 (.int .i64 100)).setCell (p := ⟨rb, 6, none⟩) HR.out.2.2 (.int .i64 0)).setCell (p := ⟨rb, 7, none⟩) HR.out.2.2 (.int .i64 3)))
  clear hfin
  clear hh b12 b1 b2
  go_wp2_with fail
  exact bodyPost_ret (celA_results (r := 0) rfl H3.out.1 _ rfl) rfl ⟨rfl, H3.out.2⟩
end Go.Proofs.Ytfmhlnfcbbpfeaa
