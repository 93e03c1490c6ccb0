/- ice: size, wrong of cells, CheckChart -/
import Derived.Test.YtbgnkljjgfcngaaGreatRSp30
import Derived.Test.YtbgnkljjgfcngaaGreatRSp5
import Derived.IntWalk
set_option linter.unusedVariables false
set_option linter.unusedSimpArgs false
namespace Go.Proofs.YtbgnkljjgfcngaaGreat
open Go Go.RowKit Sp
set_option linter.unusedVariables false

def sizeOk (a b c : Int) : Bool := within a 1 64 && within b 1 64 && decide (a * b ≤ 1024) && within c 0 10000
def sizeE (a b c : Int) : Int := if sizeOk a b c then 0 else 6
def celsE (l : List Cel) : Int := if l.all celOk then 0 else 20
def chartE (a b c : Int) (l : List Cel) : Int := if sizeE a b c ≠ 0 then sizeE a b c else if (l.length : Int) ≠ a * b then 1 else celsE l

set_option maxRecDepth 100000 in
set_option maxHeartbeats 1000000 in
theorem size_any (a b c : Int) (w : World) :
    Calls Tryz.prog 50 #[.int .i64 a, .int .i64 b, .int .i64 c] w fun e w' => e = .returned (.int .i64 (sizeE a b c)) ∧ w = w' := by
  obtain ⟨r1, hr1⟩ : ∃ r, r = within a 1 64 := ⟨_, rfl⟩
  obtain ⟨r2, hr2⟩ : ∃ r, r = within b 1 64 := ⟨_, rfl⟩
  obtain ⟨r3, hr3⟩ : ∃ r, r = within c 0 10000 := ⟨_, rfl⟩
  have k1 : ∀ wx, Calls Tryz.prog 91 #[.int .i64 a, .int .i64 1, .int .i64 64] wx fun e w' => e = .returned (.bool r1) ∧ wx = w' := fun wx => by rw [hr1]; exact icein_any _ _ _ wx
  have k2 : ∀ wx, Calls Tryz.prog 91 #[.int .i64 b, .int .i64 1, .int .i64 64] wx fun e w' => e = .returned (.bool r2) ∧ wx = w' := fun wx => by rw [hr2]; exact icein_any _ _ _ wx
  have k3 : ∀ wx, Calls Tryz.prog 91 #[.int .i64 c, .int .i64 0, .int .i64 10000] wx fun e w' => e = .returned (.bool r3) ∧ wx = w' := fun wx => by rw [hr3]; exact icein_any _ _ _ wx
  have hE : sizeE a b c = if (r1 && r2 && decide (a * b ≤ 1024) && r3) = true then 0 else 6 := by rw [hr1, hr2, hr3]; rfl
  have hab : r1 = true → r2 = true → 0 ≤ a * b ∧ a * b ≤ 4096 := fun h1 h2 => by
    rw [hr1] at h1; rw [hr2] at h2
    simp [within] at h1 h2
    refine ⟨Int.mul_nonneg (by omega) (by omega), ?_⟩
    have := Int.mul_le_mul h1.2 h2.2 (by omega) (by omega)
    omega
  obtain ⟨P, hP⟩ : ∃ P, P = a * b := ⟨_, rfl⟩
  rw [← hP] at hE hab
  have H := Lib.hid (And.intro k1 (And.intro k2 (And.intro k3 hE)))
  clear hr1 hr2 hr3 k1 k2 k3
  cases r1
  · clear hP hab hE
    go_enter Tryz.func50, Tryz.ntmps50
    go_wp2_with (go_at_call 91; refine (H.out.1 _).mono ?_; rintro e w' ⟨rfl, rfl⟩)
    go_ret
    exact ⟨by rw [H.out.2.2.2]; rfl, rfl⟩
  · cases r2
    · clear hP hab hE
      go_enter Tryz.func50, Tryz.ntmps50
      go_wp2_with (first | (go_at_call 91; with_reducible refine (H.out.1 _).mono ?_; rintro e w' ⟨rfl, rfl⟩) | (go_at_call 91; with_reducible refine (H.out.2.1 _).mono ?_; rintro e w' ⟨rfl, rfl⟩))
      go_ret
      exact ⟨by rw [H.out.2.2.2]; rfl, rfl⟩
    · obtain ⟨p1, p2⟩ := hab rfl rfl
      have w1 : IntKind.i64.wrap (a * b) = P := by rw [← hP]; exact IntWalk.i64_in _ (by omega)
      clear hab hP hE
      by_cases h : 1024 < P
      · have hd : decide (P ≤ 1024) = false := by simp; omega
        have HD := Lib.hid hd
        clear hd
        go_enter Tryz.func50, Tryz.ntmps50
        go_wp2_with (first | (go_at_call 91; with_reducible refine (H.out.1 _).mono ?_; rintro e w' ⟨rfl, rfl⟩) | (go_at_call 91; with_reducible refine (H.out.2.1 _).mono ?_; rintro e w' ⟨rfl, rfl⟩))
        go_ret
        exact ⟨by rw [H.out.2.2.2, HD.out]; rfl, rfl⟩
      · have hd : decide (P ≤ 1024) = true := by simp; omega
        have HD := Lib.hid hd
        clear hd
        cases r3
        · go_enter Tryz.func50, Tryz.ntmps50
          go_wp2_with (first | (go_at_call 91; with_reducible refine (H.out.1 _).mono ?_; rintro e w' ⟨rfl, rfl⟩) | (go_at_call 91; with_reducible refine (H.out.2.1 _).mono ?_; rintro e w' ⟨rfl, rfl⟩) | (go_at_call 91; with_reducible refine (H.out.2.2.1 _).mono ?_; rintro e w' ⟨rfl, rfl⟩))
          go_ret
          exact ⟨by rw [H.out.2.2.2, HD.out]; rfl, rfl⟩
        · go_enter Tryz.func50, Tryz.ntmps50
          go_wp2_with (first | (go_at_call 91; with_reducible refine (H.out.1 _).mono ?_; rintro e w' ⟨rfl, rfl⟩) | (go_at_call 91; with_reducible refine (H.out.2.1 _).mono ?_; rintro e w' ⟨rfl, rfl⟩) | (go_at_call 91; with_reducible refine (H.out.2.2.1 _).mono ?_; rintro e w' ⟨rfl, rfl⟩))
          go_ret
          exact ⟨by rw [H.out.2.2.2, HD.out]; rfl, rfl⟩

set_option maxRecDepth 100000 in
set_option maxHeartbeats 1000000 in
theorem wrong_any (A : Option Addr) (c : Nat) (l : List Cel) (w : World) (hr : Rd w 8 A l.length (cels l)) (hm : l.length ≤ 9223372036854775807) :
    Calls Tryz.prog 102 #[.slice A l.length c, .func (.func 103) #[] #[]] w fun e w' => e = .returned (.int .i64 (celsE l)) ∧ Below w.heap.size w w' := by
  have HR := Lib.hid hr
  clear hr
  go_enter Tryz.func102, Tryz.ntmps102
  go_wp2_with fail
  go_loopw [10] (fun i wr => ∃ k : Nat, k ≤ l.length ∧ i = .int .i64 k ∧ (∀ x ∈ l.take k, celOk x = true) ∧ Below w.heap.size w wr) (fun i _ => l.length - (intOf i).toNat)
  case atStart => exact ⟨0, Nat.zero_le _, rfl, by simp, Below.refl _ _⟩
  case round =>
    obtain ⟨k, hk, rfl, hall, hb⟩ := hrel
    have HB := Lib.hid (And.intro hall hb)
    by_cases hlt : k < l.length
    · obtain ⟨b, off, rfl, zb, hc⟩ := (HR.out.below hb).2 (by omega)
      obtain ⟨x, hx⟩ : ∃ x, x = l[k] := ⟨_, rfl⟩
      obtain ⟨s0, s1, s2, s3, s4, s5, s6, s7⟩ := cels_get hlt
      rw [← hx] at s0 s1 s2 s3 s4 s5 s6 s7
      have c0 := hc _ _ s0
      have c1 : wr.cell? ⟨b, off + k*8 + 1, none⟩ = _ := hc _ _ s1
      have c2 : wr.cell? ⟨b, off + k*8 + 2, none⟩ = _ := hc _ _ s2
      have c3 : wr.cell? ⟨b, off + k*8 + 3, none⟩ = _ := hc _ _ s3
      have c4 : wr.cell? ⟨b, off + k*8 + 4, none⟩ = _ := hc _ _ s4
      have c5 : wr.cell? ⟨b, off + k*8 + 5, none⟩ = _ := hc _ _ s5
      have c6 : wr.cell? ⟨b, off + k*8 + 6, none⟩ = _ := hc _ _ s6
      have c7 : wr.cell? ⟨b, off + k*8 + 7, none⟩ = _ := hc _ _ s7
      have n2 : (k : Int) < (l.length : Int) := by omega
      obtain ⟨er, her⟩ : ∃ er, er = celE x := ⟨_, rfl⟩
      have kc := fun wx => checkCell_any x wx
      rw [← her] at kc
      have bal : Below wr.heap.size wr (wr.alloc (.cells (celA x) 54)) := (Below.refl _ _).alloc (Nat.le_refl _) _
      have HX := Lib.hid (And.intro kc (And.intro her (And.intro hx (hb.trans (bal.mono hb.size)))))
      clear s0 s1 s2 s3 s4 s5 s6 s7 hc kc her hx hall hb bal
      by_cases h0 : er = 0
      · subst h0
        have hok : celOk x = true := by
          have := HX.out.2.1
          unfold celE at this
          split at this
          · assumption
          · cases this
        have HO := Lib.hid hok
        clear hok
        go_wp2_with (go_at_call 103; refine (HX.out.1 _).mono ?_; rintro e w2 ⟨rfl, b2⟩)
        go_roundw
        case measure => simp [intOf]; omega
        case rel =>
          refine ⟨k + 1, by omega, by go_num, fun y hy => ?_, HX.out.2.2.2.trans (b2.mono HX.out.2.2.2.size)⟩
          rw [List.take_succ_eq_append_getElem hlt] at hy
          rcases List.mem_append.1 hy with h | h
          · exact HB.out.1 y h
          · rw [List.mem_singleton.1 h, ← HX.out.2.2.1]; exact HO.out
      · have hne : (er != 0) = true := by simp [h0]
        have HK := Lib.hid h0
        clear h0
        go_wp2_with (go_at_call 103; refine (HX.out.1 _).mono ?_; rintro e w2 ⟨rfl, b2⟩)
        go_ret
        refine ⟨?_, HX.out.2.2.2.trans (b2.mono HX.out.2.2.2.size)⟩
        have hno : ¬ celOk x = true := fun h => HK.out (by rw [HX.out.2.1]; unfold celE; rw [if_pos h])
        have e1 : er = 20 := by rw [HX.out.2.1]; unfold celE; rw [if_neg hno]
        have e2 : celsE l = 20 := by
          unfold celsE
          rw [if_neg]
          intro h
          exact hno (by rw [HX.out.2.2.1]; exact List.all_eq_true.1 h _ (List.getElem_mem hlt))
        rw [e1, e2]; rfl
    · obtain rfl : k = l.length := by omega
      go_wp2_with fail
      go_ret
      refine ⟨?_, HB.out.2⟩
      have e2 : celsE l = 0 := by
        unfold celsE
        rw [if_pos (List.all_eq_true.2 (by have := HB.out.1; rwa [List.take_length] at this))]
      rw [e2]; rfl

theorem size_zero {a b c : Int} (h : sizeE a b c = 0) : (1 ≤ a ∧ a ≤ 64) ∧ (1 ≤ b ∧ b ≤ 64) ∧ 0 ≤ a * b ∧ a * b ≤ 1024 := by
  unfold sizeE at h
  split at h
  · rename_i h1
    simp [sizeOk, within] at h1
    exact ⟨by omega, by omega, Int.mul_nonneg (by omega) (by omega), h1.1.2⟩
  · cases h
set_option maxRecDepth 100000 in
set_option maxHeartbeats 1000000 in
theorem checkChart_any (a b c : Int) (A : Option Addr) (ca : Nat) (l : List Cel) (w : World) (hr : Rd w 8 A l.length (cels l)) (hm : l.length ≤ 9223372036854775807) :
    Calls Tryz.prog 62 #[.agg #[.int .i64 a, .int .i64 b, .int .i64 c, .slice A l.length ca]] w fun e w' => e = .returned (.int .i64 (chartE a b c l)) ∧ Below w.heap.size w w' := by
  obtain ⟨W, hW⟩ : ∃ W, W = w.alloc (.cells #[.int .i64 a, .int .i64 b, .int .i64 c, .slice A l.length ca] 49) := ⟨_, rfl⟩
  obtain ⟨ib, hib⟩ : ∃ b, b = w.heap.size := ⟨_, rfl⟩
  have hh : W.heap[ib]? = some (.cells #[.int .i64 a, .int .i64 b, .int .i64 c, .slice A l.length ca] 49 (0, 0)) := by rw [hW, hib]; exact heap_alloc_new _ _
  have bW : Below w.heap.size w W := by rw [hW]; exact (Below.refl _ _).alloc (Nat.le_refl _) _
  obtain ⟨er, her⟩ : ∃ er, er = sizeE a b c := ⟨_, rfl⟩
  have ks := size_any a b c W
  rw [← her] at ks
  have kw := wrong_any A ca l W (hr.below bW) hm
  obtain ⟨ew, hew⟩ : ∃ ew, ew = celsE l := ⟨_, rfl⟩
  rw [← hew] at kw
  have c0 := (cell_of_heap hh 0).trans rfl
  have c1 := (cell_of_heap hh 1).trans rfl
  have c2 := (cell_of_heap hh 2).trans rfl
  have c3 := (cell_of_heap hh 3).trans rfl
  have zb := heap_lt hh
  have HR := Lib.hid (And.intro ks (And.intro kw (And.intro bW (And.intro her hew))))
  clear hh bW ks kw her hew hr
  have hC : chartE a b c l = if er ≠ 0 then er else if (l.length : Int) ≠ a * b then 1 else ew := by rw [HR.out.2.2.2.1, HR.out.2.2.2.2]; rfl
  by_cases h0 : er = 0
  · subst h0
    obtain ⟨_, _, p1, p2⟩ := size_zero HR.out.2.2.2.1.symm
    obtain ⟨P, hP⟩ : ∃ P, P = a * b := ⟨_, rfl⟩
    rw [← hP] at hC p1 p2
    have w1 : IntKind.i64.wrap (a * b) = P := by rw [← hP]; exact IntWalk.i64_in _ (by omega)
    have HC := Lib.hid hC
    clear hC hP
    by_cases hl : (l.length : Int) = P
    · have hl' : ((l.length : Int) != P) = false := by simp [hl]
      have HL := Lib.hid hl
      clear hl
      go_enter Tryz.func62, Tryz.ntmps62
      go_upto_region 1 with fail
      rw [← hW, ← hib]
      clear hW hib
      go_wp2_with (first | (go_at_call 50; refine HR.out.1.mono ?_; rintro e w' ⟨rfl, rfl⟩) | (go_at_call 102; refine HR.out.2.1.mono ?_; rintro e w2 ⟨rfl, b2⟩))
      go_ret
      exact ⟨by rw [HC.out, if_neg (by omega), if_neg (fun h => h HL.out)]; rfl, HR.out.2.2.1.trans (b2.mono HR.out.2.2.1.size)⟩
    · have hl' : ((l.length : Int) != P) = true := by simp [hl]
      have HL := Lib.hid hl
      clear hl
      go_enter Tryz.func62, Tryz.ntmps62
      go_upto_region 1 with fail
      rw [← hW, ← hib]
      clear hW hib
      go_wp2_with (go_at_call 50; refine HR.out.1.mono ?_; rintro e w' ⟨rfl, rfl⟩)
      go_ret
      exact ⟨by rw [HC.out, if_neg (by omega), if_pos HL.out]; rfl, HR.out.2.2.1⟩
  · have hne : (er != 0) = true := by simp [h0]
    have HK := Lib.hid (And.intro h0 hC)
    clear h0 hC
    go_enter Tryz.func62, Tryz.ntmps62
    go_upto_region 1 with fail
    rw [← hW, ← hib]
    clear hW hib
    go_wp2_with (go_at_call 50; refine HR.out.1.mono ?_; rintro e w' ⟨rfl, rfl⟩)
    go_ret
    exact ⟨by rw [HK.out.2, if_pos HK.out.1]; rfl, HR.out.2.2.1⟩
end Go.Proofs.YtbgnkljjgfcngaaGreat
/- District's look for a cell that is none -/
namespace Go.Proofs.YtbgnkljjgfcngaaGreat
open Go Go.RowKit Sp
set_option linter.unusedVariables false

/-- block cb holds a chart of n cells -/
def ChartAt (w : World) (cb : Nat) (a b c : Int) (A : Option Addr) (n ca : Nat) : Prop := w.heap[cb]? = some (.cells #[.int .i64 a, .int .i64 b, .int .i64 c, .slice A n ca] 49 (0, 0))
theorem outside_any (i : Int) (cb : Nat) (a b c : Int) (A : Option Addr) (n ca : Nat) (w : World) (hh : ChartAt w cb a b c A n ca) (hn : n ≤ 9223372036854775807) :
    Calls Tryz.prog 101 #[.int .i64 i, .pointer (some ⟨cb, 0, none⟩)] w fun e w' => e = .returned (.bool (!within i 0 ((n : Int) - 1))) ∧ w = w' := by
  unfold ChartAt at hh
  have c3 := (cell_of_heap hh 3).trans rfl
  have zb := heap_lt hh
  have w1 : IntKind.i64.wrap ((n : Int) - 1) = (n : Int) - 1 := IntWalk.i64_in _ (by omega)
  clear hh
  go_enter Tryz.func101, Tryz.ntmps101
  go_wp2_with (go_at_call 69; refine (within_any _ _ _ _).mono ?_; rintro e w' ⟨rfl, rfl⟩)
  go_ret
  exact ⟨rfl, rfl⟩

def outL (n : Nat) (l : List Int) : Bool := l.any fun i => !within i 0 ((n : Int) - 1)
def outN (n : Nat) (l : List Int) (k : Nat) : Bool := outL n (l.take k)
theorem outN_succ {n : Nat} {l : List Int} {k : Nat} (hk : k < l.length) : outN n l (k + 1) = (outN n l k || !within (l.getD k 0) 0 ((n : Int) - 1)) := by
  rw [outN, outN, List.take_succ_eq_append_getElem hk, List.getD_eq_getElem?_getD, List.getElem?_eq_getElem hk]
  simp only [outL, List.any_append, List.any_cons, List.any_nil, Bool.or_false, Option.getD_some]
theorem outN_true {n : Nat} {l : List Int} {k : Nat} (h : outN n l k = true) : outL n l = true := by
  rw [outN, outL, List.any_eq_true] at h
  obtain ⟨x, hx, h⟩ := h
  rw [outL, List.any_eq_true]
  exact ⟨x, List.mem_of_mem_take hx, h⟩

set_option maxHeartbeats 1000000 in
theorem idxOut_any (A : Option Addr) (c : Nat) (l : List Int) (n : Nat) (fv : Nat) (w : World) (hr : Rd w 1 A l.length (ints l)) (hm : l.length ≤ 9223372036854775807)
    (hf : ∀ x, Calls Tryz.prog 101 #[.int .i64 x, .pointer (some ⟨fv, 0, none⟩)] w fun e w' => e = .returned (.bool (!within x 0 ((n : Int) - 1))) ∧ w = w') :
    Calls Tryz.prog 119 #[.slice A l.length c, .func (.func 101) #[] #[.pointer (some ⟨fv, 0, none⟩)]] w fun e w' => ∃ r : Int, e = .returned (.int .i64 r) ∧ decide (0 ≤ r) = outL n l ∧ w = w' := by
  have HFF := Lib.hid hf
  clear hf
  go_enter Tryz.func119, Tryz.ntmps119
  go_wp2_with fail
  go_loopg [8] (l.length) (fun g i wr => ∃ k : Nat, g + k = l.length ∧ i = .int .i64 k ∧ outN n l k = false ∧ w = wr)
  case atStart => exact ⟨0, rfl, rfl, by simp [outN, outL], rfl⟩
  case round =>
    obtain ⟨k, hk, rfl, hb, rfl⟩ := hrel
    have HB := Lib.hid hb
    clear hb
    by_cases hlt : k < l.length
    · obtain ⟨b, off, rfl, hbb, hc⟩ := hr.2 (by omega)
      have c0 := hc k _ (ints_get hlt)
      obtain ⟨x, hx⟩ : ∃ x, x = l.getD k 0 := ⟨_, rfl⟩
      rw [← hx] at c0
      have HX := Lib.hid hx
      clear hx hc hr
      cases hz : within x 0 ((n : Int) - 1)
      · have H := HFF.out x
        rw [hz] at H
        have HH := Lib.hid H
        have hbt : outL n l = true := outN_true (k := k + 1) (by rw [outN_succ hlt, ← HX.out, hz]; simp)
        have HT := Lib.hid hbt
        clear H hz hbt
        go_wp2_with (go_at_call 101; refine HH.out.mono ?_; rintro e w' ⟨rfl, rfl⟩)
        go_ret
        exact ⟨k, rfl, by rw [HT.out]; simp, rfl⟩
      · have H := HFF.out x
        rw [hz] at H
        have HH := Lib.hid H
        have hbt : outN n l (k + 1) = false := by rw [outN_succ hlt, ← HX.out, hz, HB.out]; rfl
        have HT := Lib.hid hbt
        clear H hz hbt
        go_wp2_with (go_at_call 101; refine HH.out.mono ?_; rintro e w' ⟨rfl, rfl⟩)
        go_roundg (gk - 1)
        case measure => omega
        case rel => exact ⟨k + 1, by omega, by go_num, HT.out, rfl⟩
    · obtain rfl : k = l.length := by omega
      go_wp2_with fail
      go_ret
      exact ⟨-1, rfl, by have := HB.out; rw [outN, List.take_length] at this; rw [this]; simp, rfl⟩

theorem containsOut_any (A : Option Addr) (c : Nat) (l : List Int) (n : Nat) (fv : Nat) (w : World) (hr : Rd w 1 A l.length (ints l)) (hm : l.length ≤ 9223372036854775807)
    (hf : ∀ x, Calls Tryz.prog 101 #[.int .i64 x, .pointer (some ⟨fv, 0, none⟩)] w fun e w' => e = .returned (.bool (!within x 0 ((n : Int) - 1))) ∧ w = w') :
    Calls Tryz.prog 100 #[.slice A l.length c, .func (.func 101) #[] #[.pointer (some ⟨fv, 0, none⟩)]] w fun e w' => e = .returned (.bool (outL n l)) ∧ w = w' := by
  go_enter Tryz.func100, Tryz.ntmps100
  go_wp2_with (go_at_call 119; refine (idxOut_any A c l n fv w hr hm hf).mono ?_; rintro e w' ⟨r, rfl, hd, rfl⟩; have HD := Lib.hid hd; clear hd)
  go_ret
  exact ⟨by rw [← HD.out]; rfl, rfl⟩
end Go.Proofs.YtbgnkljjgfcngaaGreat
