/- ice: size, wrong of cells, CheckChart -/
import Derived.Test.YtalcinepeofmcaaDoorRSp12
import Derived.Test.YtalcinepeofmcaaDoorRSp4
import Derived.IntWalk
import Derived.Test.YtalcinepeofmcaaDoorRSp11
import Derived.Test.YtalcinepeofmcaaDoorRSp9
set_option linter.unusedVariables false
set_option linter.unusedSimpArgs false
namespace Go.Proofs.YtalcinepeofmcaaDoor
open Go Go.RowKit Sp
set_option linter.unusedVariables false

def sizeOk (a b c : Int) : Bool := within a 1 64 && within b 1 64 && decide (a * b ≤ 1024) && within c 0 10000
def sizeE (a b c : Int) : Int := if sizeOk a b c then 0 else 6
def celsE (l : List Cel) : Int := if l.all celOk then 0 else 20
def chartE (a b c : Int) (l : List Cel) : Int := if sizeE a b c ≠ 0 then sizeE a b c else if (l.length : Int) ≠ a * b then 1 else celsE l

set_option maxRecDepth 100000 in
set_option maxHeartbeats 1000000 in
theorem size_any (a b c : Int) (w : World) :
    Calls Tryd.prog 16 #[.int .i64 a, .int .i64 b, .int .i64 c] w fun e w' => e = .returned (.int .i64 (sizeE a b c)) ∧ w = w' := by
  obtain ⟨r1, hr1⟩ : ∃ r, r = within a 1 64 := ⟨_, rfl⟩
  obtain ⟨r2, hr2⟩ : ∃ r, r = within b 1 64 := ⟨_, rfl⟩
  obtain ⟨r3, hr3⟩ : ∃ r, r = within c 0 10000 := ⟨_, rfl⟩
  have k1 : ∀ wx, Calls Tryd.prog 46 #[.int .i64 a, .int .i64 1, .int .i64 64] wx fun e w' => e = .returned (.bool r1) ∧ wx = w' := fun wx => by rw [hr1]; exact icein_any _ _ _ wx
  have k2 : ∀ wx, Calls Tryd.prog 46 #[.int .i64 b, .int .i64 1, .int .i64 64] wx fun e w' => e = .returned (.bool r2) ∧ wx = w' := fun wx => by rw [hr2]; exact icein_any _ _ _ wx
  have k3 : ∀ wx, Calls Tryd.prog 46 #[.int .i64 c, .int .i64 0, .int .i64 10000] wx fun e w' => e = .returned (.bool r3) ∧ wx = w' := fun wx => by rw [hr3]; exact icein_any _ _ _ wx
  have hE : sizeE a b c = if (r1 && r2 && decide (a * b ≤ 1024) && r3) = true then 0 else 6 := by rw [hr1, hr2, hr3]; rfl
  have hab : r1 = true → r2 = true → 0 ≤ a * b ∧ a * b ≤ 4096 := fun h1 h2 => by
    rw [hr1] at h1; rw [hr2] at h2
    simp [within] at h1 h2
    refine ⟨Int.mul_nonneg (by omega) (by omega), ?_⟩
    have := Int.mul_le_mul h1.2 h2.2 (by omega) (by omega)
    omega
  obtain ⟨P, hP⟩ : ∃ P, P = a * b := ⟨_, rfl⟩
  rw [← hP] at hE hab
  have H := Lib.hid (And.intro k1 (And.intro k2 (And.intro k3 hE)))
  clear hr1 hr2 hr3 k1 k2 k3
  cases r1
  · clear hP hab hE
    go_enter Tryd.func16, Tryd.ntmps16
    go_wp2_with (go_at_call 46; refine (H.out.1 _).mono ?_; rintro e w' ⟨rfl, rfl⟩)
    go_ret
    exact ⟨by rw [H.out.2.2.2]; rfl, rfl⟩
  · cases r2
    · clear hP hab hE
      go_enter Tryd.func16, Tryd.ntmps16
      go_wp2_with (first | (go_at_call 46; with_reducible refine (H.out.1 _).mono ?_; rintro e w' ⟨rfl, rfl⟩) | (go_at_call 46; with_reducible refine (H.out.2.1 _).mono ?_; rintro e w' ⟨rfl, rfl⟩))
      go_ret
      exact ⟨by rw [H.out.2.2.2]; rfl, rfl⟩
    · obtain ⟨p1, p2⟩ := hab rfl rfl
      have w1 : IntKind.i64.wrap (a * b) = P := by rw [← hP]; exact IntWalk.i64_in _ (by omega)
      clear hab hP hE
      by_cases h : 1024 < P
      · have hd : decide (P ≤ 1024) = false := by simp; omega
        have HD := Lib.hid hd
        clear hd
        go_enter Tryd.func16, Tryd.ntmps16
        go_wp2_with (first | (go_at_call 46; with_reducible refine (H.out.1 _).mono ?_; rintro e w' ⟨rfl, rfl⟩) | (go_at_call 46; with_reducible refine (H.out.2.1 _).mono ?_; rintro e w' ⟨rfl, rfl⟩))
        go_ret
        exact ⟨by rw [H.out.2.2.2, HD.out]; rfl, rfl⟩
      · have hd : decide (P ≤ 1024) = true := by simp; omega
        have HD := Lib.hid hd
        clear hd
        cases r3
        · go_enter Tryd.func16, Tryd.ntmps16
          go_wp2_with (first | (go_at_call 46; with_reducible refine (H.out.1 _).mono ?_; rintro e w' ⟨rfl, rfl⟩) | (go_at_call 46; with_reducible refine (H.out.2.1 _).mono ?_; rintro e w' ⟨rfl, rfl⟩) | (go_at_call 46; with_reducible refine (H.out.2.2.1 _).mono ?_; rintro e w' ⟨rfl, rfl⟩))
          go_ret
          exact ⟨by rw [H.out.2.2.2, HD.out]; rfl, rfl⟩
        · go_enter Tryd.func16, Tryd.ntmps16
          go_wp2_with (first | (go_at_call 46; with_reducible refine (H.out.1 _).mono ?_; rintro e w' ⟨rfl, rfl⟩) | (go_at_call 46; with_reducible refine (H.out.2.1 _).mono ?_; rintro e w' ⟨rfl, rfl⟩) | (go_at_call 46; with_reducible refine (H.out.2.2.1 _).mono ?_; rintro e w' ⟨rfl, rfl⟩))
          go_ret
          exact ⟨by rw [H.out.2.2.2, HD.out]; rfl, rfl⟩

set_option maxRecDepth 100000 in
set_option maxHeartbeats 1000000 in
theorem wrong_any (A : Option Addr) (c : Nat) (l : List Cel) (w : World) (hr : Rd w 8 A l.length (cels l)) (hm : l.length ≤ 9223372036854775807) :
    Calls Tryd.prog 50 #[.slice A l.length c, .func (.func 43) #[] #[]] w fun e w' => e = .returned (.int .i64 (celsE l)) ∧ Below w.heap.size w w' := by
  have HR := Lib.hid hr
  clear hr
  go_enter Tryd.func50, Tryd.ntmps50
  go_wp2_with fail
  go_loopw [10] (fun i wr => ∃ k : Nat, k ≤ l.length ∧ i = .int .i64 k ∧ (∀ x ∈ l.take k, celOk x = true) ∧ Below w.heap.size w wr) (fun i _ => l.length - (intOf i).toNat)
  case atStart => exact ⟨0, Nat.zero_le _, rfl, by simp, Below.refl _ _⟩
  case round =>
    obtain ⟨k, hk, rfl, hall, hb⟩ := hrel
    have HB := Lib.hid (And.intro hall hb)
    by_cases hlt : k < l.length
    · obtain ⟨b, off, rfl, zb, hc⟩ := (HR.out.below hb).2 (by omega)
      obtain ⟨x, hx⟩ : ∃ x, x = l[k] := ⟨_, rfl⟩
      obtain ⟨s0, s1, s2, s3, s4, s5, s6, s7⟩ := cels_get hlt
      rw [← hx] at s0 s1 s2 s3 s4 s5 s6 s7
      have c0 := hc _ _ s0
      have c1 : wr.cell? ⟨b, off + k*8 + 1, none⟩ = _ := hc _ _ s1
      have c2 : wr.cell? ⟨b, off + k*8 + 2, none⟩ = _ := hc _ _ s2
      have c3 : wr.cell? ⟨b, off + k*8 + 3, none⟩ = _ := hc _ _ s3
      have c4 : wr.cell? ⟨b, off + k*8 + 4, none⟩ = _ := hc _ _ s4
      have c5 : wr.cell? ⟨b, off + k*8 + 5, none⟩ = _ := hc _ _ s5
      have c6 : wr.cell? ⟨b, off + k*8 + 6, none⟩ = _ := hc _ _ s6
      have c7 : wr.cell? ⟨b, off + k*8 + 7, none⟩ = _ := hc _ _ s7
      have n2 : (k : Int) < (l.length : Int) := by omega
      obtain ⟨er, her⟩ : ∃ er, er = celE x := ⟨_, rfl⟩
      have kc := fun wx => checkCell_any x wx
      rw [← her] at kc
      have bal : Below wr.heap.size wr (wr.alloc (.cells (celA x) 30)) := (Below.refl _ _).alloc (Nat.le_refl _) _
      have HX := Lib.hid (And.intro kc (And.intro her (And.intro hx (hb.trans (bal.mono hb.size)))))
      clear s0 s1 s2 s3 s4 s5 s6 s7 hc kc her hx hall hb bal
      by_cases h0 : er = 0
      · subst h0
        have hok : celOk x = true := by
          have := HX.out.2.1
          unfold celE at this
          split at this
          · assumption
          · cases this
        have HO := Lib.hid hok
        clear hok
        go_wp2_with (go_at_call 43; refine (HX.out.1 _).mono ?_; rintro e w2 ⟨rfl, b2⟩)
        go_roundw
        case measure => simp [intOf]; omega
        case rel =>
          refine ⟨k + 1, by omega, by go_num, fun y hy => ?_, HX.out.2.2.2.trans (b2.mono HX.out.2.2.2.size)⟩
          rw [List.take_succ_eq_append_getElem hlt] at hy
          rcases List.mem_append.1 hy with h | h
          · exact HB.out.1 y h
          · rw [List.mem_singleton.1 h, ← HX.out.2.2.1]; exact HO.out
      · have hne : (er != 0) = true := by simp [h0]
        have HK := Lib.hid h0
        clear h0
        go_wp2_with (go_at_call 43; refine (HX.out.1 _).mono ?_; rintro e w2 ⟨rfl, b2⟩)
        go_ret
        refine ⟨?_, HX.out.2.2.2.trans (b2.mono HX.out.2.2.2.size)⟩
        have hno : ¬ celOk x = true := fun h => HK.out (by rw [HX.out.2.1]; unfold celE; rw [if_pos h])
        have e1 : er = 20 := by rw [HX.out.2.1]; unfold celE; rw [if_neg hno]
        have e2 : celsE l = 20 := by
          unfold celsE
          rw [if_neg]
          intro h
          exact hno (by rw [HX.out.2.2.1]; exact List.all_eq_true.1 h _ (List.getElem_mem hlt))
        rw [e1, e2]; rfl
    · obtain rfl : k = l.length := by omega
      go_wp2_with fail
      go_ret
      refine ⟨?_, HB.out.2⟩
      have e2 : celsE l = 0 := by
        unfold celsE
        rw [if_pos (List.all_eq_true.2 (by have := HB.out.1; rwa [List.take_length] at this))]
      rw [e2]; rfl

theorem size_zero {a b c : Int} (h : sizeE a b c = 0) : (1 ≤ a ∧ a ≤ 64) ∧ (1 ≤ b ∧ b ≤ 64) ∧ 0 ≤ a * b ∧ a * b ≤ 1024 := by
  unfold sizeE at h
  split at h
  · rename_i h1
    simp [sizeOk, within] at h1
    exact ⟨by omega, by omega, Int.mul_nonneg (by omega) (by omega), h1.1.2⟩
  · cases h
set_option maxRecDepth 100000 in
set_option maxHeartbeats 1000000 in
theorem checkChart_any (a b c : Int) (A : Option Addr) (ca : Nat) (l : List Cel) (w : World) (hr : Rd w 8 A l.length (cels l)) (hm : l.length ≤ 9223372036854775807) :
    Calls Tryd.prog 19 #[.agg #[.int .i64 a, .int .i64 b, .int .i64 c, .slice A l.length ca]] w fun e w' => e = .returned (.int .i64 (chartE a b c l)) ∧ Below w.heap.size w w' := by
  obtain ⟨W, hW⟩ : ∃ W, W = w.alloc (.cells #[.int .i64 a, .int .i64 b, .int .i64 c, .slice A l.length ca] 34) := ⟨_, rfl⟩
  obtain ⟨ib, hib⟩ : ∃ b, b = w.heap.size := ⟨_, rfl⟩
  have hh : W.heap[ib]? = some (.cells #[.int .i64 a, .int .i64 b, .int .i64 c, .slice A l.length ca] 34 (0, 0)) := by rw [hW, hib]; exact heap_alloc_new _ _
  have bW : Below w.heap.size w W := by rw [hW]; exact (Below.refl _ _).alloc (Nat.le_refl _) _
  obtain ⟨er, her⟩ : ∃ er, er = sizeE a b c := ⟨_, rfl⟩
  have ks := size_any a b c W
  rw [← her] at ks
  have kw := wrong_any A ca l W (hr.below bW) hm
  obtain ⟨ew, hew⟩ : ∃ ew, ew = celsE l := ⟨_, rfl⟩
  rw [← hew] at kw
  have c0 := (cell_of_heap hh 0).trans rfl
  have c1 := (cell_of_heap hh 1).trans rfl
  have c2 := (cell_of_heap hh 2).trans rfl
  have c3 := (cell_of_heap hh 3).trans rfl
  have zb := heap_lt hh
  have HR := Lib.hid (And.intro ks (And.intro kw (And.intro bW (And.intro her hew))))
  clear hh bW ks kw her hew hr
  have hC : chartE a b c l = if er ≠ 0 then er else if (l.length : Int) ≠ a * b then 1 else ew := by rw [HR.out.2.2.2.1, HR.out.2.2.2.2]; rfl
  by_cases h0 : er = 0
  · subst h0
    obtain ⟨_, _, p1, p2⟩ := size_zero HR.out.2.2.2.1.symm
    obtain ⟨P, hP⟩ : ∃ P, P = a * b := ⟨_, rfl⟩
    rw [← hP] at hC p1 p2
    have w1 : IntKind.i64.wrap (a * b) = P := by rw [← hP]; exact IntWalk.i64_in _ (by omega)
    have HC := Lib.hid hC
    clear hC hP
    by_cases hl : (l.length : Int) = P
    · have hl' : ((l.length : Int) != P) = false := by simp [hl]
      have HL := Lib.hid hl
      clear hl
      go_enter Tryd.func19, Tryd.ntmps19
      go_upto_region 1 with fail
      rw [← hW, ← hib]
      clear hW hib
      go_wp2_with (first | (go_at_call 16; refine HR.out.1.mono ?_; rintro e w' ⟨rfl, rfl⟩) | (go_at_call 50; refine HR.out.2.1.mono ?_; rintro e w2 ⟨rfl, b2⟩))
      go_ret
      exact ⟨by rw [HC.out, if_neg (by omega), if_neg (fun h => h HL.out)]; rfl, HR.out.2.2.1.trans (b2.mono HR.out.2.2.1.size)⟩
    · have hl' : ((l.length : Int) != P) = true := by simp [hl]
      have HL := Lib.hid hl
      clear hl
      go_enter Tryd.func19, Tryd.ntmps19
      go_upto_region 1 with fail
      rw [← hW, ← hib]
      clear hW hib
      go_wp2_with (go_at_call 16; refine HR.out.1.mono ?_; rintro e w' ⟨rfl, rfl⟩)
      go_ret
      exact ⟨by rw [HC.out, if_neg (by omega), if_pos HL.out]; rfl, HR.out.2.2.1⟩
  · have hne : (er != 0) = true := by simp [h0]
    have HK := Lib.hid (And.intro h0 hC)
    clear h0 hC
    go_enter Tryd.func19, Tryd.ntmps19
    go_upto_region 1 with fail
    rw [← hW, ← hib]
    clear hW hib
    go_wp2_with (go_at_call 16; refine HR.out.1.mono ?_; rintro e w' ⟨rfl, rfl⟩)
    go_ret
    exact ⟨by rw [HK.out.2, if_pos HK.out.1]; rfl, HR.out.2.2.1⟩
end Go.Proofs.YtalcinepeofmcaaDoor
/- District's look for a cell that is none -/
namespace Go.Proofs.YtalcinepeofmcaaDoor
open Go Go.RowKit Sp
set_option linter.unusedVariables false

/-- block cb holds a chart of n cells -/
def ChartAt (w : World) (cb : Nat) (a b c : Int) (A : Option Addr) (n ca : Nat) : Prop := w.heap[cb]? = some (.cells #[.int .i64 a, .int .i64 b, .int .i64 c, .slice A n ca] 34 (0, 0))
theorem outside_any (i : Int) (cb : Nat) (a b c : Int) (A : Option Addr) (n ca : Nat) (w : World) (hh : ChartAt w cb a b c A n ca) (hn : n ≤ 9223372036854775807) :
    Calls Tryd.prog 21 #[.int .i64 i, .pointer (some ⟨cb, 0, none⟩)] w fun e w' => e = .returned (.bool (!within i 0 ((n : Int) - 1))) ∧ w = w' := by
  unfold ChartAt at hh
  have c3 := (cell_of_heap hh 3).trans rfl
  have zb := heap_lt hh
  have w1 : IntKind.i64.wrap ((n : Int) - 1) = (n : Int) - 1 := IntWalk.i64_in _ (by omega)
  clear hh
  go_enter Tryd.func21, Tryd.ntmps21
  go_wp2_with (go_at_call 22; refine (within_any _ _ _ _).mono ?_; rintro e w' ⟨rfl, rfl⟩)
  go_ret
  exact ⟨rfl, rfl⟩

def outL (n : Nat) (l : List Int) : Bool := l.any fun i => !within i 0 ((n : Int) - 1)
def outN (n : Nat) (l : List Int) (k : Nat) : Bool := outL n (l.take k)
theorem outN_succ {n : Nat} {l : List Int} {k : Nat} (hk : k < l.length) : outN n l (k + 1) = (outN n l k || !within (l.getD k 0) 0 ((n : Int) - 1)) := by
  rw [outN, outN, List.take_succ_eq_append_getElem hk, List.getD_eq_getElem?_getD, List.getElem?_eq_getElem hk]
  simp only [outL, List.any_append, List.any_cons, List.any_nil, Bool.or_false, Option.getD_some]
theorem outN_true {n : Nat} {l : List Int} {k : Nat} (h : outN n l k = true) : outL n l = true := by
  rw [outN, outL, List.any_eq_true] at h
  obtain ⟨x, hx, h⟩ := h
  rw [outL, List.any_eq_true]
  exact ⟨x, List.mem_of_mem_take hx, h⟩

set_option maxHeartbeats 1000000 in
theorem idxOut_any (A : Option Addr) (c : Nat) (l : List Int) (n : Nat) (fv : Nat) (w : World) (hr : Rd w 1 A l.length (ints l)) (hm : l.length ≤ 9223372036854775807)
    (hf : ∀ x, Calls Tryd.prog 21 #[.int .i64 x, .pointer (some ⟨fv, 0, none⟩)] w fun e w' => e = .returned (.bool (!within x 0 ((n : Int) - 1))) ∧ w = w') :
    Calls Tryd.prog 51 #[.slice A l.length c, .func (.func 21) #[] #[.pointer (some ⟨fv, 0, none⟩)]] w fun e w' => ∃ r : Int, e = .returned (.int .i64 r) ∧ decide (0 ≤ r) = outL n l ∧ w = w' := by
  have HFF := Lib.hid hf
  clear hf
  go_enter Tryd.func51, Tryd.ntmps51
  go_wp2_with fail
  go_loopg [8] (l.length) (fun g i wr => ∃ k : Nat, g + k = l.length ∧ i = .int .i64 k ∧ outN n l k = false ∧ w = wr)
  case atStart => exact ⟨0, rfl, rfl, by simp [outN, outL], rfl⟩
  case round =>
    obtain ⟨k, hk, rfl, hb, rfl⟩ := hrel
    have HB := Lib.hid hb
    clear hb
    by_cases hlt : k < l.length
    · obtain ⟨b, off, rfl, hbb, hc⟩ := hr.2 (by omega)
      have c0 := hc k _ (ints_get hlt)
      obtain ⟨x, hx⟩ : ∃ x, x = l.getD k 0 := ⟨_, rfl⟩
      rw [← hx] at c0
      have HX := Lib.hid hx
      clear hx hc hr
      cases hz : within x 0 ((n : Int) - 1)
      · have H := HFF.out x
        rw [hz] at H
        have HH := Lib.hid H
        have hbt : outL n l = true := outN_true (k := k + 1) (by rw [outN_succ hlt, ← HX.out, hz]; simp)
        have HT := Lib.hid hbt
        clear H hz hbt
        go_wp2_with (go_at_call 21; refine HH.out.mono ?_; rintro e w' ⟨rfl, rfl⟩)
        go_ret
        exact ⟨k, rfl, by rw [HT.out]; simp, rfl⟩
      · have H := HFF.out x
        rw [hz] at H
        have HH := Lib.hid H
        have hbt : outN n l (k + 1) = false := by rw [outN_succ hlt, ← HX.out, hz, HB.out]; rfl
        have HT := Lib.hid hbt
        clear H hz hbt
        go_wp2_with (go_at_call 21; refine HH.out.mono ?_; rintro e w' ⟨rfl, rfl⟩)
        go_roundg (gk - 1)
        case measure => omega
        case rel => exact ⟨k + 1, by omega, by go_num, HT.out, rfl⟩
    · obtain rfl : k = l.length := by omega
      go_wp2_with fail
      go_ret
      exact ⟨-1, rfl, by have := HB.out; rw [outN, List.take_length] at this; rw [this]; simp, rfl⟩

theorem containsOut_any (A : Option Addr) (c : Nat) (l : List Int) (n : Nat) (fv : Nat) (w : World) (hr : Rd w 1 A l.length (ints l)) (hm : l.length ≤ 9223372036854775807)
    (hf : ∀ x, Calls Tryd.prog 21 #[.int .i64 x, .pointer (some ⟨fv, 0, none⟩)] w fun e w' => e = .returned (.bool (!within x 0 ((n : Int) - 1))) ∧ w = w') :
    Calls Tryd.prog 20 #[.slice A l.length c, .func (.func 21) #[] #[.pointer (some ⟨fv, 0, none⟩)]] w fun e w' => e = .returned (.bool (outL n l)) ∧ w = w' := by
  go_enter Tryd.func20, Tryd.ntmps20
  go_wp2_with (go_at_call 51; refine (idxOut_any A c l n fv w hr hm hf).mono ?_; rintro e w' ⟨r, rfl, hd, rfl⟩; have HD := Lib.hid hd; clear hd)
  go_ret
  exact ⟨by rw [← HD.out]; rfl, rfl⟩
end Go.Proofs.YtalcinepeofmcaaDoor
/- restrict.grade, Grade; polynyaref08.Grade -/
namespace Go.Proofs.YtalcinepeofmcaaDoor
open Go Go.RowKit Sp
set_option linter.unusedVariables false

def gradeS (x : Ice) : Int := Int.tdiv (x.con * x.thk) 100 + 5 * x.rid + 50 * x.prs
def gradeN (x : Ice) : Int := if iceOk x then gradeS x else 0
theorem gradeN_ok {x : Ice} (h : iceOk x = true) : gradeN x = gradeS x := by unfold gradeN; rw [if_pos h]
theorem gradeN_no {x : Ice} (h : ¬ iceOk x = true) : gradeN x = 0 := by unfold gradeN; rw [if_neg h]
theorem ice_ok {x : Ice} (h : iceOk x = true) : (0 ≤ x.con ∧ x.con ≤ 100) ∧ (0 ≤ x.thk ∧ x.thk ≤ 400) ∧ (0 ≤ x.rid ∧ x.rid ≤ 100) ∧ (0 ≤ x.prs ∧ x.prs ≤ 3) := by
  simp [iceOk, within] at h
  omega
theorem ice_prod {x : Ice} (h : iceOk x = true) : 0 ≤ x.con * x.thk ∧ x.con * x.thk ≤ 40000 := by
  obtain ⟨⟨a1, a2⟩, ⟨b1, b2⟩, _⟩ := ice_ok h
  refine ⟨Int.mul_nonneg a1 b1, ?_⟩
  have := Int.mul_le_mul a2 b2 b1 (by omega)
  omega
theorem grade_range {x : Ice} (h : iceOk x = true) : 0 ≤ gradeS x ∧ gradeS x ≤ 1050 := by
  obtain ⟨_, _, c1, c2⟩ := ice_ok h
  obtain ⟨d1, d2⟩ := ice_prod h
  unfold gradeS
  rw [Int.tdiv_eq_ediv_of_nonneg d1]
  omega
set_option maxRecDepth 100000 in
set_option maxHeartbeats 1000000 in
theorem grade_any (x : Ice) (w : World) (hx : iceOk x = true) :
    Calls Tryd.prog 23 #[.agg #[.int .i64 x.con, .int .i64 x.thk, .int .i64 x.rid, .int .i64 x.prs]] w fun e w' => e = .returned (.int .i64 (gradeS x)) ∧ Below w.heap.size w w' := by
  obtain ⟨_, _, ⟨c1, c2⟩, ⟨c3, c4⟩⟩ := ice_ok hx
  obtain ⟨d1, d2⟩ := ice_prod hx
  obtain ⟨P, hP⟩ : ∃ P, P = x.con * x.thk := ⟨_, rfl⟩
  have hG : gradeS x = Int.tdiv P 100 + 5 * x.rid + 50 * x.prs := by rw [hP]; rfl
  rw [hG]
  rw [← hP] at d1 d2
  obtain ⟨Q, hQ⟩ : ∃ Q, Q = Int.tdiv P 100 := ⟨_, rfl⟩
  have q1 : 0 ≤ Q ∧ Q ≤ 400 := by rw [hQ, Int.tdiv_eq_ediv_of_nonneg d1]; omega
  obtain ⟨w1, w2, w3, w4, w5, w6⟩ : IntKind.i64.wrap (x.con * x.thk) = P ∧ Int.tdiv P 100 = Q ∧ IntKind.i64.wrap (5 * x.rid) = 5 * x.rid ∧ IntKind.i64.wrap (Q + 5 * x.rid) = Q + 5 * x.rid ∧ IntKind.i64.wrap (50 * x.prs) = 50 * x.prs ∧ IntKind.i64.wrap (Q + 5 * x.rid + 50 * x.prs) = Q + 5 * x.rid + 50 * x.prs :=
    ⟨by rw [← hP]; exact IntWalk.i64_in _ (by omega), hQ.symm, IntWalk.i64_in _ (by omega), IntWalk.i64_in _ (by omega), IntWalk.i64_in _ (by omega), IntWalk.i64_in _ (by omega)⟩
  rw [w2]
  have w7 : IntKind.i64.wrap Q = Q := IntWalk.i64_in _ (by omega)
  clear hQ hP hG
  go_enter Tryd.func23, Tryd.ntmps23
  go_wp2_with fail
  go_ret
  refine ⟨?_, (Below.refl _ _).alloc (Nat.le_refl _) _⟩
  rfl

end Go.Proofs.YtalcinepeofmcaaDoor
/- restrict.District (printed by wip/tools/dist.py) -/
namespace Go.Proofs.YtalcinepeofmcaaDoor
open Go Go.RowKit Sp
set_option linter.unusedVariables false
set_option linter.unusedSimpArgs false

def celLo (x : Cel) : Ice := ⟨x.a0, x.b0, x.c0, x.d0⟩
def celHi (x : Cel) : Ice := ⟨x.a1, x.b1, x.c1, x.d1⟩
theorem cel_lo {x : Cel} (h : celOk x = true) : iceOk (celLo x) = true := by
  have e : iceOk (celLo x) = (within x.a0 0 100 && within x.b0 0 400 && within x.c0 0 100 && within x.d0 0 3) := rfl
  rw [e]
  simp only [celOk, spanOk, within, Bool.and_eq_true, decide_eq_true_eq] at h ⊢
  omega
theorem cel_hi {x : Cel} (h : celOk x = true) : iceOk (celHi x) = true := by
  have e : iceOk (celHi x) = (within x.a1 0 100 && within x.b1 0 400 && within x.c1 0 100 && within x.d1 0 3) := rfl
  rw [e]
  simp only [celOk, spanOk, within, Bool.and_eq_true, decide_eq_true_eq] at h ⊢
  omega
def celAt (l : List Cel) (n : Int) : Cel := l.getD n.toNat default
/-- the greatest severity of the cells named, by f -/
def distM (f : Cel → Ice) (l : List Cel) : List Int → Int
  | [] => 0
  | n :: ns => max (gradeS (f (celAt l n))) (distM f l ns)
def distN (f : Cel → Ice) (l : List Cel) (ns : List Int) : Int := distM f l ns.reverse
theorem distN_snoc (f : Cel → Ice) (l : List Cel) (ns : List Int) (n : Int) : distN f l (ns ++ [n]) = max (gradeS (f (celAt l n))) (distN f l ns) := by simp [distN, distM]
def distE (a b c : Int) (l : List Cel) (ns : List Int) : Int := if chartE a b c l ≠ 0 then chartE a b c l else if ns.length = 0 ∨ outL l.length ns = true then 1 else 0
def distV (a b c : Int) (l : List Cel) (ns : List Int) : Int × Int := if distE a b c l ns = 0 then (distN celLo l ns, distN celHi l ns) else (0, 0)
theorem chart_ok {a b c : Int} {l : List Cel} (h : chartE a b c l = 0) : ∀ x ∈ l, celOk x = true := by
  unfold chartE at h
  split at h
  · rename_i h1; exact absurd h h1
  · split at h
    · cases h
    · unfold celsE at h
      split at h
      · rename_i h2; exact List.all_eq_true.1 h2
      · cases h
theorem outL_no {n : Nat} {l : List Int} (h : outL n l = false) : ∀ x ∈ l, 0 ≤ x ∧ x < n := by
  intro x hx
  have : (!within x 0 ((n : Int) - 1)) = false := by
    cases h1 : !within x 0 ((n : Int) - 1) with
    | false => rfl
    | true => rw [outL, List.any_eq_true.2 ⟨x, hx, h1⟩] at h; cases h
  simp [within] at this
  omega

theorem dist_results {W : World} {rb : Nat} {x y : Value} (h : W.heap[rb]? = some (.cells #[x, y] 28 (0, 0))) (hx : ∃ i j, x = .int .i64 i ∧ y = .int .i64 j) (tmps : Array Value) (v5 : Value) (h4 : tmps.getD 4 undef = .pointer (some ⟨rb, 0, none⟩)) (h5 : tmps.getD 5 undef = v5) :
    (results Tryd.f7 tmps).run Tryd.prog W = .ok (.tuple #[.agg #[x, y], v5]) W := by
  obtain ⟨i, j, rfl, rfl⟩ := hx
  have hr : Tryd.f7.results = #[.cell 4 28, .tmp 5] := rfl
  have g4 : tmps[4]?.getD undef = .pointer (some ⟨rb, 0, none⟩) := by simpa using h4
  have g5 : tmps[5]?.getD undef = v5 := by simpa using h5
  have c0 : W.cell? ⟨rb, 0, none⟩ = some (.int .i64 i) := (cell_of_heap h 0).trans rfl
  have c1 : W.cell? ⟨rb, 1, none⟩ = some (.int .i64 j) := (cell_of_heap h 1).trans rfl
  simp [results, hr, g4, g5, asAddr, go_sem, c0, c1]

set_option linter.unusedVariables false
def DaV (W0 : World) (ob xb : Nat) (x : Cel) (lo hi g z : Int) : Nat → Value → Prop
  | 0, v => v = .pointer (some ⟨ob, 0, none⟩)
  | 1, v => v = .int .i64 lo
  | 2, v => v = .pointer (some ⟨xb, 0, none⟩)
  | 3, v => v = .pointer (some ⟨xb, 0, none⟩)
  | 4, v => v = .int .i64 x.a0
  | 5, v => v = .pointer (some ⟨xb, 2, none⟩)
  | 6, v => v = .pointer (some ⟨xb, 2, none⟩)
  | 7, v => v = .int .i64 x.b0
  | 8, v => v = .pointer (some ⟨xb, 4, none⟩)
  | 9, v => v = .pointer (some ⟨xb, 4, none⟩)
  | 10, v => v = .int .i64 x.c0
  | 11, v => v = .pointer (some ⟨xb, 6, none⟩)
  | 12, v => v = .pointer (some ⟨xb, 6, none⟩)
  | 13, v => v = .int .i64 x.d0
  | 14, v => v = .agg #[.int .i64 x.a0, .int .i64 x.b0, .int .i64 x.c0, .int .i64 x.d0]
  | 15, v => v = .int .i64 g
  | 16, v => v = .int .i64 z
  | 17, v => v = .pointer (some ⟨ob, 0, none⟩)
  | _, _ => True
def DaW (W0 : World) (ob xb : Nat) (x : Cel) (lo hi g z : Int) (l : Nat → Bool) (w : World) : Prop := Keep [ob] W0 w ∧ w.heap[ob]? = some (.cells (if l 18 then #[.int .i64 z, .int .i64 hi] else #[.int .i64 lo, .int .i64 hi]) 28 (0, 0))
set_option linter.unusedVariables false
def DbV (W0 : World) (ob xb : Nat) (x : Cel) (lo hi g z : Int) : Nat → Value → Prop
  | 0, v => v = .pointer (some ⟨ob, 1, none⟩)
  | 1, v => v = .int .i64 hi
  | 2, v => v = .pointer (some ⟨xb, 0, none⟩)
  | 3, v => v = .pointer (some ⟨xb, 1, none⟩)
  | 4, v => v = .int .i64 x.a1
  | 5, v => v = .pointer (some ⟨xb, 2, none⟩)
  | 6, v => v = .pointer (some ⟨xb, 3, none⟩)
  | 7, v => v = .int .i64 x.b1
  | 8, v => v = .pointer (some ⟨xb, 4, none⟩)
  | 9, v => v = .pointer (some ⟨xb, 5, none⟩)
  | 10, v => v = .int .i64 x.c1
  | 11, v => v = .pointer (some ⟨xb, 6, none⟩)
  | 12, v => v = .pointer (some ⟨xb, 7, none⟩)
  | 13, v => v = .int .i64 x.d1
  | 14, v => v = .agg #[.int .i64 x.a1, .int .i64 x.b1, .int .i64 x.c1, .int .i64 x.d1]
  | 15, v => v = .int .i64 g
  | 16, v => v = .int .i64 z
  | 17, v => v = .pointer (some ⟨ob, 1, none⟩)
  | _, _ => True
def DbW (W0 : World) (ob xb : Nat) (x : Cel) (lo hi g z : Int) (l : Nat → Bool) (w : World) : Prop := Keep [ob] W0 w ∧ w.heap[ob]? = some (.cells (if l 18 then #[.int .i64 lo, .int .i64 z] else #[.int .i64 lo, .int .i64 hi]) 28 (0, 0))

def DistPost (w : World) (a b c : Int) (l : List Cel) (ns : List Int) (e : Ending) (w' : World) : Prop :=
  e = .returned (.tuple #[.agg #[.int .i64 (distV a b c l ns).1, .int .i64 (distV a b c l ns).2], .int .i64 (distE a b c l ns)]) ∧ Below w.heap.size w w'
/-- the state of the loop: out holds the two severities -/
structure DiSt (W0 wr : World) (ob : Nat) (l : List Cel) (ns : List Int) (lo hi : Int) : Prop where
  kp : Keep [ob] W0 wr
  hh : wr.heap[ob]? = some (.cells #[.int .i64 lo, .int .i64 hi] 28 (0, 0))
  e1 : lo = distN celLo l ns
  e2 : hi = distN celHi l ns

set_option maxRecDepth 100000 in
set_option maxHeartbeats 4000000 in
theorem District_any (a b c : Int) (A : Option Addr) (ca : Nat) (l : List Cel) (An : Option Addr) (cn : Nat) (ns : List Int) (w : World) (hr : Rd w 8 A l.length (cels l)) (hm : l.length ≤ 9223372036854775807) (hn : Rd w 1 An ns.length (ints ns)) (hm2 : ns.length ≤ 9223372036854775807) :
    Calls Tryd.prog 7 #[.agg #[.int .i64 a, .int .i64 b, .int .i64 c, .slice A l.length ca], .slice An ns.length cn] w (DistPost w a b c l ns) := by
  obtain ⟨W, hW⟩ : ∃ W, W = (w.alloc (.cells #[.int .i64 a, .int .i64 b, .int .i64 c, .slice A l.length ca] 34)).alloc (.cells #[.int .i64 0, .int .i64 0] 28) := ⟨_, rfl⟩
  obtain ⟨ib, hib⟩ : ∃ b, b = w.heap.size := ⟨_, rfl⟩
  obtain ⟨rb, hrb⟩ : ∃ b, b = w.heap.size + 1 := ⟨_, rfl⟩
  have hh : W.heap[ib]? = some (.cells #[.int .i64 a, .int .i64 b, .int .i64 c, .slice A l.length ca] 34 (0, 0)) := by rw [hW, hib]; exact heap_alloc' (heap_alloc_new _ _) _
  have hrh : W.heap[rb]? = some (.cells #[.int .i64 0, .int .i64 0] 28 (0, 0)) := by
    rw [hW, hrb]
    have := heap_alloc_new (w.alloc (.cells #[.int .i64 a, .int .i64 b, .int .i64 c, .slice A l.length ca] 34)) (.cells #[.int .i64 0, .int .i64 0] 28)
    rwa [World.size_alloc] at this
  have bW : Below w.heap.size w W := by rw [hW]; exact ((Below.refl _ _).alloc (Nat.le_refl _) _).alloc (by simp) _
  have hrw : w.heap.size ≤ rb := by omega
  obtain ⟨er, her⟩ : ∃ er, er = chartE a b c l := ⟨_, rfl⟩
  have kc := checkChart_any a b c A ca l W (hr.below bW) hm
  rw [← her] at kc
  have hrW := hr.below bW
  have hnW := hn.below bW
  have c0 := (cell_of_heap hh 0).trans rfl
  have c1 := (cell_of_heap hh 1).trans rfl
  have c2 := (cell_of_heap hh 2).trans rfl
  have c3 := (cell_of_heap hh 3).trans rfl
  have zb := heap_lt hh
  have zr := heap_lt hrh
  have HR := Lib.hid (And.intro hh (And.intro hrh (And.intro bW (And.intro kc (And.intro her (And.intro hrW hnW))))))
  clear hh hrh bW kc her hr hn hrW hnW
  have hend : ∀ W', Below W.heap.size W W' → W'.heap[rb]? = some (.cells #[.int .i64 0, .int .i64 0] 28 (0, 0)) ∧ Below w.heap.size w W' := fun W' hB => ⟨(hB.block _ (heap_lt HR.out.2.1)).trans HR.out.2.1, HR.out.2.2.1.trans (hB.mono HR.out.2.2.1.size)⟩
  have hset : ∀ W' (x y : Value) p q, W'.heap[rb]? = some (.cells #[p, q] 28 (0, 0)) → Below w.heap.size w W' → ((W'.setCell ⟨rb, 0, none⟩ x).setCell ⟨rb, 1, none⟩ y).heap[rb]? = some (.cells #[x, y] 28 (0, 0)) ∧ Below w.heap.size w ((W'.setCell ⟨rb, 0, none⟩ x).setCell ⟨rb, 1, none⟩ y) := fun W' x y p q h hB => ⟨heap_set (heap_set h 0 _) 1 _, (hB.setCell hrw _).setCell hrw _⟩
  have HE := Lib.hid (And.intro hend hset)
  clear hend hset
  go_enter Tryd.func7, Tryd.ntmps7
  go_upto_region 1 with fail
  rw [← hW, ← hrb, ← hib]
  clear hW hib hrb
  go_wp2_with fail
  refine HR.out.2.2.2.1.mono ?_
  rintro e w1 ⟨rfl, b1⟩
  have HB := Lib.hid b1
  have hh1 := (b1.block _ (heap_lt HR.out.1)).trans HR.out.1
  have hrh1 := (b1.block _ (heap_lt HR.out.2.1)).trans HR.out.2.1
  clear c0 c1 c2 c3 zb zr b1
  have zb := heap_lt hh1
  have zr := heap_lt hrh1
  have r0 := (cell_of_heap hrh1 0).trans rfl
  have r1 := (cell_of_heap hrh1 1).trans rfl
  have f0 := frozen_of_heap hrh1 0
  have f1 := frozen_of_heap hrh1 1
  have HH := Lib.hid (And.intro hh1 hrh1)
  clear hh1 hrh1
  by_cases h0 : er = 0
  · subst h0
    have hck : chartE a b c l = 0 := HR.out.2.2.2.2.1.symm
    obtain ⟨ro, hro⟩ : ∃ r, r = outL l.length ns := ⟨_, rfl⟩
    have kco := containsOut_any An cn ns l.length ib w1 (HR.out.2.2.2.2.2.2.below HB.out) hm2 (fun x => outside_any x ib a b c A l.length ca w1 HH.out.1 hm)
    rw [← hro] at kco
    have HK := Lib.hid (And.intro hck (And.intro hro kco))
    clear hck hro kco
    by_cases hz : ns.length = 0
    · have HZ := Lib.hid hz
      have hzb : ((ns.length : Int) == 0) = true := by simp [hz]
      clear hz
      go_wp2_with fail
      have hE : distE a b c l ns = 1 := by unfold distE; rw [if_neg (fun h => h HK.out.1), if_pos (.inl HZ.out)]
      have hV : distV a b c l ns = (0, 0) := by unfold distV; rw [if_neg (by rw [hE]; decide)]
      have hq := HE.out.2 w1 (.int .i64 0) (.int .i64 0) _ _ (HE.out.1 w1 HB.out).1 (HE.out.1 w1 HB.out).2
      exact bodyPost_ret (dist_results hq.1 ⟨_, _, rfl, rfl⟩ _ _ rfl rfl) rfl ⟨by rw [hE, hV]; rfl, hq.2⟩
    · have hzb : ((ns.length : Int) == 0) = false := beq_eq_false_iff_ne.2 (by omega)
      have hnp : 0 < ns.length := by omega
      have HZ := Lib.hid hz
      clear hz
      cases ro
      · go_upto_region 6 with (go_at_call 20; refine HK.out.2.2.mono ?_; rintro e w2 ⟨rfl, rfl⟩)
        obtain ⟨ob, hob⟩ : ∃ ob, ob = w1.heap.size := ⟨_, rfl⟩
        clear r0 r1 f0 f1 zb zr
        have hrange := outL_no HK.out.2.1.symm
        have hcok := chart_ok HK.out.1
        have hE : distE a b c l ns = 0 := by unfold distE; rw [if_neg (fun h => h HK.out.1), if_neg (fun h => by rcases h with h | h; exact HZ.out h; rw [← HK.out.2.1] at h; cases h)]
        have hV : distV a b c l ns = (distN celLo l ns, distN celHi l ns) := by unfold distV; rw [if_pos hE]
        have HQ := Lib.hid (And.intro hrange (And.intro hcok (And.intro hE hV)))
        clear hrange hcok hE hV
        obtain ⟨W2, hW2⟩ : ∃ W2, W2 = w1.alloc (.cells #[.int .i64 0, .int .i64 0] 28) := ⟨_, rfl⟩
        have hoh : W2.heap[ob]? = some (.cells #[.int .i64 0, .int .i64 0] 28 (0, 0)) := by rw [hW2, hob]; exact heap_alloc_new _ _
        have b2 : Below w1.heap.size w1 W2 := by rw [hW2]; exact (Below.refl _ _).alloc (Nat.le_refl _) _
        have hne : w1.heap.size ≤ ob := by omega
        have hih2 := (b2.block _ (heap_lt HH.out.1)).trans HH.out.1
        have hrh2 := (b2.block _ (heap_lt HH.out.2)).trans HH.out.2
        have H2 := Lib.hid (And.intro hoh (And.intro b2 (And.intro hih2 (And.intro hrh2 (And.intro (HR.out.2.2.2.2.2.1.below (HB.out.trans (b2.mono HB.out.size))) (HR.out.2.2.2.2.2.2.below (HB.out.trans (b2.mono HB.out.size))))))))
        have hib : ib ≠ ob := by have := heap_lt HH.out.1; omega
        have hrb : rb ≠ ob := by have := heap_lt HH.out.2; omega
        have HN := Lib.hid (And.intro hib hrb)
        clear hoh b2 hih2 hrh2 hib hrb
        go_upto_region 7 with fail
        rw [← hW2, ← hob]
        clear hW2 hob
        go_wp2_with fail
        go_loopw [28] (fun i wr => ∃ (k : Nat) (lo hi : Int), k ≤ ns.length ∧ i = .int .i64 k ∧ DiSt W2 wr ob l (ns.take k) lo hi) (fun i _ => ns.length - (intOf i).toNat)
        case atStart => exact ⟨0, 0, 0, Nat.zero_le _, rfl, ⟨Keep.refl _ _, H2.out.1, rfl, rfl⟩⟩
        case round =>
          obtain ⟨k, lo, hi, hk, rfl, hS⟩ := hrel
          have HS := Lib.hid hS
          clear hS
          by_cases hlt : k < ns.length
          · obtain ⟨bn, on, rfl, hbn, hcn⟩ := (HR.out.2.2.2.2.2.2.below HB.out).2 (by omega)
            obtain ⟨n, hn⟩ : ∃ n, n = ns[k] := ⟨_, rfl⟩
            have hnr := HQ.out.1 n (by rw [hn]; exact List.getElem_mem hlt)
            obtain ⟨m, rfl⟩ := Int.eq_ofNat_of_zero_le hnr.1
            have hml : m < l.length := by omega
            obtain ⟨bl, ol, rfl, hbl, hcl⟩ := (HR.out.2.2.2.2.2.1.below HB.out).2 (by omega)
            obtain ⟨x, hx⟩ : ∃ x, x = l[m] := ⟨_, rfl⟩
            obtain ⟨s0, s1, s2, s3, s4, s5, s6, s7⟩ := cels_get hml
            rw [← hx] at s0 s1 s2 s3 s4 s5 s6 s7
            have KC : ∀ {b o : Nat} {u : Value}, w1.cell? ⟨b, o, none⟩ = some u → b < w1.heap.size → wr.cell? ⟨b, o, none⟩ = some u := fun h hb => HS.out.kp.cell ((H2.out.2.1.cell hb).trans h) (by simp; omega)
            have i0 : wr.cell? ⟨bn, on + k, none⟩ = some (.int .i64 m) := KC (hcn k _ (by rw [hn]; have := ints_get hlt; rwa [List.getD_eq_getElem?_getD, List.getElem?_eq_getElem hlt] at this)) hbn
            have d0 := KC (hcl _ _ s0) hbl
            have d1 : wr.cell? ⟨bl, ol + m*8 + 1, none⟩ = _ := KC (hcl _ _ s1) hbl
            have d2 : wr.cell? ⟨bl, ol + m*8 + 2, none⟩ = _ := KC (hcl _ _ s2) hbl
            have d3 : wr.cell? ⟨bl, ol + m*8 + 3, none⟩ = _ := KC (hcl _ _ s3) hbl
            have d4 : wr.cell? ⟨bl, ol + m*8 + 4, none⟩ = _ := KC (hcl _ _ s4) hbl
            have d5 : wr.cell? ⟨bl, ol + m*8 + 5, none⟩ = _ := KC (hcl _ _ s5) hbl
            have d6 : wr.cell? ⟨bl, ol + m*8 + 6, none⟩ = _ := KC (hcl _ _ s6) hbl
            have d7 : wr.cell? ⟨bl, ol + m*8 + 7, none⟩ = _ := KC (hcl _ _ s7) hbl
            have c3 : wr.cell? ⟨ib, 3, none⟩ = _ := KC ((cell_of_heap HH.out.1 3).trans rfl) (heap_lt HH.out.1)
            have zib : ib < wr.heap.size := World.block_lt_of_cell? _ _ c3
            have n1 : (0 : Int) ≤ (m : Int) := by omega
            have n2 : (m : Int) < (l.length : Int) := by omega
            have n3 : (k : Int) < (ns.length : Int) := by omega
            have hxok := HQ.out.2.1 x (by rw [hx]; exact List.getElem_mem hml)
            obtain ⟨g1, hg1⟩ : ∃ g, g = gradeS (celLo x) := ⟨_, rfl⟩
            obtain ⟨g2, hg2⟩ : ∃ g, g = gradeS (celHi x) := ⟨_, rfl⟩
            have kg1 := fun wx => grade_any (celLo x) wx (cel_lo hxok)
            have kg2 := fun wx => grade_any (celHi x) wx (cel_hi hxok)
            rw [← hg1] at kg1
            rw [← hg2] at kg2
            obtain ⟨z1, hz1⟩ : ∃ z, (if lo < g1 then g1 else lo) = z := ⟨_, rfl⟩
            obtain ⟨z2, hz2⟩ : ∃ z, (if hi < g2 then g2 else hi) = z := ⟨_, rfl⟩
            have HGLo := Lib.hid (And.intro kg1 hg1)
            have HGHi := Lib.hid (And.intro kg2 hg2)
            have HZLo := Lib.hid hz1
            have HZHi := Lib.hid hz2
            have HXX := Lib.hid (And.intro hx hn)
            clear kg1 hg1 kg2 hg2 hz1 hz2 hxok KC s0 s1 s2 s3 s4 s5 s6 s7 hcn hcl hx hn
            obtain ⟨WR, hWR⟩ : ∃ WR, WR = wr.alloc (.cells (celA x) 30) := ⟨_, rfl⟩
            obtain ⟨xb, hxb⟩ : ∃ xb, xb = wr.heap.size := ⟨_, rfl⟩
            have hxh : WR.heap[xb]? = some (.cells (celA x) 30 (0, 0)) := by rw [hWR, hxb]; exact heap_alloc_new _ _
            have hobl : ob < wr.heap.size := heap_lt HS.out.hh
            have hxo : xb ≠ ob := by omega
            have KW : Keep [ob] W2 WR := by rw [hWR]; exact HS.out.kp.alloc _
            have hoW : WR.heap[ob]? = some (.cells #[.int .i64 lo, .int .i64 hi] 28 (0, 0)) := by rw [hWR]; exact heap_alloc' HS.out.hh _
            have HX := Lib.hid (And.intro hxo (show ∀ (j : Nat) v, (celA x)[j]? = some v → WR.cell? ⟨xb, j, none⟩ = some v from fun j v hv => (cell_of_heap hxh j).trans hv))
            have HKW := Lib.hid (And.intro KW hxh)
            have HO := Lib.hid hoW
            clear hxh hxo KW hoW
            go_upto_region 11 with fail
            rw [← hWR, ← hxb]
            clear hWR hxb i0 d0 d1 d2 d3 d4 d5 d6 d7 c3 zib
            refine wp_region_steps (σ := Unit) (by kernel_rfl) (by kernel_rfl) (fun _ jx vx _ => DaV WR ob xb x lo hi g1 z1 jx vx) (fun _ ly wx => DaW WR ob xb x lo hi g1 z1 ly wx) () ?_ ?_ ?_
            · exact ⟨(Keep.refl _ _).drew, by rw [if_neg (by simp)]; exact HO.out⟩
            · simp only [AllFrom, Nat.zero_add, Nat.reduceAdd]
              refine ⟨?_, ?_, ?_, ?_, ?_, ?_, ?_, ?_, ?_, ?_, ?_, ?_, ?_, ?_, ?_, ?_, ?_, ?_, ?_, trivial⟩
              · refine step_pure fun sg ly a wr hl hd hW hF => ?_
                have et7 := hF.old 7 (by kernel_rfl)
                simp [Act.eval] at et7
                exact ⟨by simpa [DaW, upd] using hW, .pointer (some ⟨ob, 0, none⟩), by go_simp, rfl⟩
              · refine step_pure fun sg ly a wr hl hd hW hF => ?_
                simp [Region.binds] at hd
                have et37 := hF.new 0 37 (by simp [hd]) rfl
                simp [DaV, Act.eval] at et37
                have n18_16 := hF.notYet 1 16 hl (by kernel_rfl)
                have n18 := hF.notYet 16 18 n18_16 (by kernel_rfl)
                have hh := hW.2
                rw [if_neg (by simp [n18])] at hh
                have c0 := (cell_of_heap hh 0).trans rfl
                exact ⟨by simpa [DaW, upd] using hW, _, by go_simp, rfl⟩
              · refine step_pure fun sg ly a wr hl hd hW hF => ?_
                have et10 := hF.old 10 (by kernel_rfl)
                simp [Act.eval] at et10
                exact ⟨by simpa [DaW, upd] using hW, .pointer (some ⟨xb, 0, none⟩), by go_simp, rfl⟩
              · refine step_pure fun sg ly a wr hl hd hW hF => ?_
                simp [Region.binds] at hd
                have et39 := hF.new 2 39 (by simp [hd]) rfl
                simp [DaV, Act.eval] at et39
                exact ⟨by simpa [DaW, upd] using hW, .pointer (some ⟨xb, 0, none⟩), by go_simp, rfl⟩
              · refine step_pure fun sg ly a wr hl hd hW hF => ?_
                simp [Region.binds] at hd
                have et40 := hF.new 3 40 (by simp [hd]) rfl
                simp [DaV, Act.eval] at et40
                have c0 := hW.1.cell (HX.out.2 0 _ rfl) (by simpa using HX.out.1)
                exact ⟨by simpa [DaW, upd] using hW, .int .i64 x.a0, by go_simp, rfl⟩
              · refine step_pure fun sg ly a wr hl hd hW hF => ?_
                have et10 := hF.old 10 (by kernel_rfl)
                simp [Act.eval] at et10
                exact ⟨by simpa [DaW, upd] using hW, .pointer (some ⟨xb, 2, none⟩), by go_simp, rfl⟩
              · refine step_pure fun sg ly a wr hl hd hW hF => ?_
                simp [Region.binds] at hd
                have et42 := hF.new 5 42 (by simp [hd]) rfl
                simp [DaV, Act.eval] at et42
                exact ⟨by simpa [DaW, upd] using hW, .pointer (some ⟨xb, 2, none⟩), by go_simp, rfl⟩
              · refine step_pure fun sg ly a wr hl hd hW hF => ?_
                simp [Region.binds] at hd
                have et43 := hF.new 6 43 (by simp [hd]) rfl
                simp [DaV, Act.eval] at et43
                have c0 := hW.1.cell (HX.out.2 2 _ rfl) (by simpa using HX.out.1)
                exact ⟨by simpa [DaW, upd] using hW, .int .i64 x.b0, by go_simp, rfl⟩
              · refine step_pure fun sg ly a wr hl hd hW hF => ?_
                have et10 := hF.old 10 (by kernel_rfl)
                simp [Act.eval] at et10
                exact ⟨by simpa [DaW, upd] using hW, .pointer (some ⟨xb, 4, none⟩), by go_simp, rfl⟩
              · refine step_pure fun sg ly a wr hl hd hW hF => ?_
                simp [Region.binds] at hd
                have et45 := hF.new 8 45 (by simp [hd]) rfl
                simp [DaV, Act.eval] at et45
                exact ⟨by simpa [DaW, upd] using hW, .pointer (some ⟨xb, 4, none⟩), by go_simp, rfl⟩
              · refine step_pure fun sg ly a wr hl hd hW hF => ?_
                simp [Region.binds] at hd
                have et46 := hF.new 9 46 (by simp [hd]) rfl
                simp [DaV, Act.eval] at et46
                have c0 := hW.1.cell (HX.out.2 4 _ rfl) (by simpa using HX.out.1)
                exact ⟨by simpa [DaW, upd] using hW, .int .i64 x.c0, by go_simp, rfl⟩
              · refine step_pure fun sg ly a wr hl hd hW hF => ?_
                have et10 := hF.old 10 (by kernel_rfl)
                simp [Act.eval] at et10
                exact ⟨by simpa [DaW, upd] using hW, .pointer (some ⟨xb, 6, none⟩), by go_simp, rfl⟩
              · refine step_pure fun sg ly a wr hl hd hW hF => ?_
                simp [Region.binds] at hd
                have et48 := hF.new 11 48 (by simp [hd]) rfl
                simp [DaV, Act.eval] at et48
                exact ⟨by simpa [DaW, upd] using hW, .pointer (some ⟨xb, 6, none⟩), by go_simp, rfl⟩
              · refine step_pure fun sg ly a wr hl hd hW hF => ?_
                simp [Region.binds] at hd
                have et49 := hF.new 12 49 (by simp [hd]) rfl
                simp [DaV, Act.eval] at et49
                have c0 := hW.1.cell (HX.out.2 6 _ rfl) (by simpa using HX.out.1)
                exact ⟨by simpa [DaW, upd] using hW, .int .i64 x.d0, by go_simp, rfl⟩
              · refine step_pure fun sg ly a wr hl hd hW hF => ?_
                simp [Region.binds] at hd
                have et41 := hF.new 4 41 (by simp [hd]) rfl
                simp [DaV, Act.eval] at et41
                have et44 := hF.new 7 44 (by simp [hd]) rfl
                simp [DaV, Act.eval] at et44
                have et47 := hF.new 10 47 (by simp [hd]) rfl
                simp [DaV, Act.eval] at et47
                have et50 := hF.new 13 50 (by simp [hd]) rfl
                simp [DaV, Act.eval] at et50
                exact ⟨by simpa [DaW, upd] using hW, .agg #[.int .i64 x.a0, .int .i64 x.b0, .int .i64 x.c0, .int .i64 x.d0], by go_simp, rfl⟩
              · refine step_call fun sg ly a wr hl hd hW hF => ?_
                simp [Region.binds] at hd
                have et51 := hF.new 14 51 (by simp [hd]) rfl
                simp [DaV, Act.eval] at et51
                refine ⟨23, #[.agg #[.int .i64 x.a0, .int .i64 x.b0, .int .i64 x.c0, .int .i64 x.d0]], by go_simp, ?_⟩
                refine (HGLo.out.1 wr).mono ?_
                rintro e w2 ⟨rfl, b2⟩
                exact ⟨_, (), rfl, ⟨hW.1.trans (Keep.of_below (S := []) b2) (by simp), by simpa [upd] using (b2.block _ (heap_lt hW.2)).trans hW.2⟩, rfl, fun _ _ _ h => h⟩
              · refine step_pure fun sg ly a wr hl hd hW hF => ?_
                simp [Region.binds] at hd
                have et38 := hF.new 1 38 (by simp [hd]) rfl
                simp [DaV, Act.eval] at et38
                have et52 := hF.new 15 52 (by simp [hd]) rfl
                simp [DaV, Act.eval] at et52
                have hz := HZLo.out
                exact ⟨by simpa [DaW, upd] using hW, .int .i64 z1, by go_simp, rfl⟩
              · refine step_pure fun sg ly a wr hl hd hW hF => ?_
                have et7 := hF.old 7 (by kernel_rfl)
                simp [Act.eval] at et7
                exact ⟨by simpa [DaW, upd] using hW, .pointer (some ⟨ob, 0, none⟩), by go_simp, rfl⟩
              · refine step_store rfl fun sg ly a wr hl hd hW hF => ?_
                simp [Region.binds] at hd
                have et54 := hF.new 17 54 (by simp [hd]) rfl
                simp [DaV, Act.eval] at et54
                have et53 := hF.new 16 53 (by simp [hd]) rfl
                simp [DaV, Act.eval] at et53
                have hh := hW.2
                rw [if_neg (by simp [hl])] at hh
                have c0 := (cell_of_heap hh 0).trans rfl
                have f0 := frozen_of_heap hh 0
                refine ⟨wr.setCell ⟨ob, 0, none⟩ (.int .i64 z1), (), .skip, by go_simp, .inl rfl, ⟨hW.1.setCell (.inl (by simp)) _, ?_⟩, fun _ _ _ h => h⟩
                rw [if_pos (by simp [upd])]; exact heap_set hh 0 _
            intro _ a w5 hW hF
            obtain ⟨f, hf, rfl⟩ := hF.lit
            obtain ⟨kp5, hh5⟩ := hW
            simp only [List.length_cons, List.length_nil, Nat.reduceAdd, Nat.reduceLT, decide_true, if_true] at hh5
            have HX5 := Lib.hid (And.intro HX.out.1 (show ∀ (j : Nat) v, (celA x)[j]? = some v → w5.cell? ⟨xb, j, none⟩ = some v from fun j v hv => kp5.cell (HX.out.2 j v hv) (by simpa using HX.out.1)))
            have HO5 := Lib.hid hh5
            have HK5 := Lib.hid kp5
            clear hf hF kp5 hh5 HX HO
            have HX := HX5
            have HO := HO5
            clear HX5 HO5
            simp only [List.filterMap, List.foldl, List.setIfInBounds_toArray, List.set_cons_succ, List.set_cons_zero]
            go_upto_region 12 with fail
            refine wp_region_steps (σ := Unit) (by kernel_rfl) (by kernel_rfl) (fun _ jx vx _ => DbV w5 ob xb x z1 hi g2 z2 jx vx) (fun _ ly wx => DbW w5 ob xb x z1 hi g2 z2 ly wx) () ?_ ?_ ?_
            · exact ⟨(Keep.refl _ _).drew, by rw [if_neg (by simp)]; exact HO.out⟩
            · simp only [AllFrom, Nat.zero_add, Nat.reduceAdd]
              refine ⟨?_, ?_, ?_, ?_, ?_, ?_, ?_, ?_, ?_, ?_, ?_, ?_, ?_, ?_, ?_, ?_, ?_, ?_, ?_, trivial⟩
              · refine step_pure fun sg ly a wr hl hd hW hF => ?_
                have et7 := hF.old 7 (by kernel_rfl)
                simp [Act.eval] at et7
                exact ⟨by simpa [DbW, upd] using hW, .pointer (some ⟨ob, 1, none⟩), by go_simp, rfl⟩
              · refine step_pure fun sg ly a wr hl hd hW hF => ?_
                simp [Region.binds] at hd
                have et55 := hF.new 0 55 (by simp [hd]) rfl
                simp [DbV, Act.eval] at et55
                have n18_16 := hF.notYet 1 16 hl (by kernel_rfl)
                have n18 := hF.notYet 16 18 n18_16 (by kernel_rfl)
                have hh := hW.2
                rw [if_neg (by simp [n18])] at hh
                have c0 := (cell_of_heap hh 1).trans rfl
                exact ⟨by simpa [DbW, upd] using hW, _, by go_simp, rfl⟩
              · refine step_pure fun sg ly a wr hl hd hW hF => ?_
                have et10 := hF.old 10 (by kernel_rfl)
                simp [Act.eval] at et10
                exact ⟨by simpa [DbW, upd] using hW, .pointer (some ⟨xb, 0, none⟩), by go_simp, rfl⟩
              · refine step_pure fun sg ly a wr hl hd hW hF => ?_
                simp [Region.binds] at hd
                have et57 := hF.new 2 57 (by simp [hd]) rfl
                simp [DbV, Act.eval] at et57
                exact ⟨by simpa [DbW, upd] using hW, .pointer (some ⟨xb, 1, none⟩), by go_simp, rfl⟩
              · refine step_pure fun sg ly a wr hl hd hW hF => ?_
                simp [Region.binds] at hd
                have et58 := hF.new 3 58 (by simp [hd]) rfl
                simp [DbV, Act.eval] at et58
                have c0 := hW.1.cell (HX.out.2 1 _ rfl) (by simpa using HX.out.1)
                exact ⟨by simpa [DbW, upd] using hW, .int .i64 x.a1, by go_simp, rfl⟩
              · refine step_pure fun sg ly a wr hl hd hW hF => ?_
                have et10 := hF.old 10 (by kernel_rfl)
                simp [Act.eval] at et10
                exact ⟨by simpa [DbW, upd] using hW, .pointer (some ⟨xb, 2, none⟩), by go_simp, rfl⟩
              · refine step_pure fun sg ly a wr hl hd hW hF => ?_
                simp [Region.binds] at hd
                have et60 := hF.new 5 60 (by simp [hd]) rfl
                simp [DbV, Act.eval] at et60
                exact ⟨by simpa [DbW, upd] using hW, .pointer (some ⟨xb, 3, none⟩), by go_simp, rfl⟩
              · refine step_pure fun sg ly a wr hl hd hW hF => ?_
                simp [Region.binds] at hd
                have et61 := hF.new 6 61 (by simp [hd]) rfl
                simp [DbV, Act.eval] at et61
                have c0 := hW.1.cell (HX.out.2 3 _ rfl) (by simpa using HX.out.1)
                exact ⟨by simpa [DbW, upd] using hW, .int .i64 x.b1, by go_simp, rfl⟩
              · refine step_pure fun sg ly a wr hl hd hW hF => ?_
                have et10 := hF.old 10 (by kernel_rfl)
                simp [Act.eval] at et10
                exact ⟨by simpa [DbW, upd] using hW, .pointer (some ⟨xb, 4, none⟩), by go_simp, rfl⟩
              · refine step_pure fun sg ly a wr hl hd hW hF => ?_
                simp [Region.binds] at hd
                have et63 := hF.new 8 63 (by simp [hd]) rfl
                simp [DbV, Act.eval] at et63
                exact ⟨by simpa [DbW, upd] using hW, .pointer (some ⟨xb, 5, none⟩), by go_simp, rfl⟩
              · refine step_pure fun sg ly a wr hl hd hW hF => ?_
                simp [Region.binds] at hd
                have et64 := hF.new 9 64 (by simp [hd]) rfl
                simp [DbV, Act.eval] at et64
                have c0 := hW.1.cell (HX.out.2 5 _ rfl) (by simpa using HX.out.1)
                exact ⟨by simpa [DbW, upd] using hW, .int .i64 x.c1, by go_simp, rfl⟩
              · refine step_pure fun sg ly a wr hl hd hW hF => ?_
                have et10 := hF.old 10 (by kernel_rfl)
                simp [Act.eval] at et10
                exact ⟨by simpa [DbW, upd] using hW, .pointer (some ⟨xb, 6, none⟩), by go_simp, rfl⟩
              · refine step_pure fun sg ly a wr hl hd hW hF => ?_
                simp [Region.binds] at hd
                have et66 := hF.new 11 66 (by simp [hd]) rfl
                simp [DbV, Act.eval] at et66
                exact ⟨by simpa [DbW, upd] using hW, .pointer (some ⟨xb, 7, none⟩), by go_simp, rfl⟩
              · refine step_pure fun sg ly a wr hl hd hW hF => ?_
                simp [Region.binds] at hd
                have et67 := hF.new 12 67 (by simp [hd]) rfl
                simp [DbV, Act.eval] at et67
                have c0 := hW.1.cell (HX.out.2 7 _ rfl) (by simpa using HX.out.1)
                exact ⟨by simpa [DbW, upd] using hW, .int .i64 x.d1, by go_simp, rfl⟩
              · refine step_pure fun sg ly a wr hl hd hW hF => ?_
                simp [Region.binds] at hd
                have et59 := hF.new 4 59 (by simp [hd]) rfl
                simp [DbV, Act.eval] at et59
                have et62 := hF.new 7 62 (by simp [hd]) rfl
                simp [DbV, Act.eval] at et62
                have et65 := hF.new 10 65 (by simp [hd]) rfl
                simp [DbV, Act.eval] at et65
                have et68 := hF.new 13 68 (by simp [hd]) rfl
                simp [DbV, Act.eval] at et68
                exact ⟨by simpa [DbW, upd] using hW, .agg #[.int .i64 x.a1, .int .i64 x.b1, .int .i64 x.c1, .int .i64 x.d1], by go_simp, rfl⟩
              · refine step_call fun sg ly a wr hl hd hW hF => ?_
                simp [Region.binds] at hd
                have et69 := hF.new 14 69 (by simp [hd]) rfl
                simp [DbV, Act.eval] at et69
                refine ⟨23, #[.agg #[.int .i64 x.a1, .int .i64 x.b1, .int .i64 x.c1, .int .i64 x.d1]], by go_simp, ?_⟩
                refine (HGHi.out.1 wr).mono ?_
                rintro e w2 ⟨rfl, b2⟩
                exact ⟨_, (), rfl, ⟨hW.1.trans (Keep.of_below (S := []) b2) (by simp), by simpa [upd] using (b2.block _ (heap_lt hW.2)).trans hW.2⟩, rfl, fun _ _ _ h => h⟩
              · refine step_pure fun sg ly a wr hl hd hW hF => ?_
                simp [Region.binds] at hd
                have et56 := hF.new 1 56 (by simp [hd]) rfl
                simp [DbV, Act.eval] at et56
                have et70 := hF.new 15 70 (by simp [hd]) rfl
                simp [DbV, Act.eval] at et70
                have hz := HZHi.out
                exact ⟨by simpa [DbW, upd] using hW, .int .i64 z2, by go_simp, rfl⟩
              · refine step_pure fun sg ly a wr hl hd hW hF => ?_
                have et7 := hF.old 7 (by kernel_rfl)
                simp [Act.eval] at et7
                exact ⟨by simpa [DbW, upd] using hW, .pointer (some ⟨ob, 1, none⟩), by go_simp, rfl⟩
              · refine step_store rfl fun sg ly a wr hl hd hW hF => ?_
                simp [Region.binds] at hd
                have et72 := hF.new 17 72 (by simp [hd]) rfl
                simp [DbV, Act.eval] at et72
                have et71 := hF.new 16 71 (by simp [hd]) rfl
                simp [DbV, Act.eval] at et71
                have hh := hW.2
                rw [if_neg (by simp [hl])] at hh
                have c0 := (cell_of_heap hh 1).trans rfl
                have f0 := frozen_of_heap hh 1
                refine ⟨wr.setCell ⟨ob, 1, none⟩ (.int .i64 z2), (), .skip, by go_simp, .inl rfl, ⟨hW.1.setCell (.inl (by simp)) _, ?_⟩, fun _ _ _ h => h⟩
                rw [if_pos (by simp [upd])]; exact heap_set hh 1 _
            intro _ a w6 hW hF
            obtain ⟨f2, hf, rfl⟩ := hF.lit
            obtain ⟨kp6, hh6⟩ := hW
            simp only [List.length_cons, List.length_nil, Nat.reduceAdd, Nat.reduceLT, decide_true, if_true] at hh6
            have H6 := Lib.hid (And.intro kp6 hh6)
            clear hf hF kp6 hh6 HO HX
            simp only [List.filterMap, List.foldl, List.setIfInBounds_toArray, List.set_cons_succ, List.set_cons_zero]
            go_wp2_with fail
            go_roundw
            case measure => simp [intOf]; omega
            case rel =>
              have e0 : ns.take (k + 1) = ns.take k ++ [(m : Int)] := by rw [List.take_succ_eq_append_getElem hlt, HXX.out.2]
              have e1 : celAt l (m : Int) = x := by rw [HXX.out.1]; simp [celAt, List.getD_eq_getElem?_getD, List.getElem?_eq_getElem hml]
              refine ⟨k + 1, z1, z2, by omega, by go_num, ⟨(HKW.out.1.trans HK5.out (by simp)).trans H6.out.1 (by simp), H6.out.2, ?_, ?_⟩⟩
              · rw [e0, distN_snoc, e1, ← HGLo.out.2, ← HS.out.e1, ← HZLo.out]
                split <;> omega
              · rw [e0, distN_snoc, e1, ← HGHi.out.2, ← HS.out.e2, ← HZHi.out]
                split <;> omega
          · obtain rfl : k = ns.length := by omega
            have o0 := (cell_of_heap HS.out.hh 0).trans rfl
            have o1 := (cell_of_heap HS.out.hh 1).trans rfl
            have hrr : wr.heap[rb]? = some (.cells #[.int .i64 0, .int .i64 0] 28 (0, 0)) := (HS.out.kp.block _ (heap_lt H2.out.2.2.2.1) (by simpa using HN.out.2)).trans H2.out.2.2.2.1
            have zo := heap_lt HS.out.hh
            have zr := heap_lt hrr
            have f0 := frozen_of_heap hrr 0
            have f1 := frozen_of_heap hrr 1
            have r0 := (cell_of_heap hrr 0).trans rfl
            have r1 := (cell_of_heap hrr 1).trans rfl
            have bw : Below w.heap.size w wr := (HE.out.1 w1 HB.out).2.trans ((H2.out.2.1.trans (HS.out.kp.below H2.out.2.1.size (by simpa using hne))).mono (HE.out.1 w1 HB.out).2.size)
            have hq := HE.out.2 wr (.int .i64 lo) (.int .i64 hi) _ _ hrr bw
            have HQQ := Lib.hid hq
            clear hrr bw hq
            go_wp2_with fail
            refine bodyPost_ret (dist_results HQQ.out.1 ⟨_, _, rfl, rfl⟩ _ _ rfl rfl) rfl ⟨?_, HQQ.out.2⟩
            have e1 := HS.out.e1
            have e2 := HS.out.e2
            rw [List.take_length] at e1 e2
            rw [HQ.out.2.2.1, HQ.out.2.2.2, e1, e2]; rfl
      · go_wp2_with (go_at_call 20; refine HK.out.2.2.mono ?_; rintro e w2 ⟨rfl, rfl⟩)
        have hE : distE a b c l ns = 1 := by unfold distE; rw [if_neg (fun h => h HK.out.1), if_pos (.inr HK.out.2.1.symm)]
        have hV : distV a b c l ns = (0, 0) := by unfold distV; rw [if_neg (by rw [hE]; decide)]
        have hq := HE.out.2 w1 (.int .i64 0) (.int .i64 0) _ _ (HE.out.1 w1 HB.out).1 (HE.out.1 w1 HB.out).2
        exact bodyPost_ret (dist_results hq.1 ⟨_, _, rfl, rfl⟩ _ _ rfl rfl) rfl ⟨by rw [hE, hV]; rfl, hq.2⟩
  · have hne : (er != 0) = true := by simp [h0]
    have HK := Lib.hid h0
    clear h0
    go_wp2_with fail
    have hE : distE a b c l ns = er := by unfold distE; rw [if_pos (by rw [← HR.out.2.2.2.2.1]; exact HK.out), HR.out.2.2.2.2.1]
    have hV : distV a b c l ns = (0, 0) := by unfold distV; rw [if_neg (by rw [hE]; exact HK.out)]
    have hq := HE.out.2 w1 (.int .i64 0) (.int .i64 0) _ _ (HE.out.1 w1 HB.out).1 (HE.out.1 w1 HB.out).2
    exact bodyPost_ret (dist_results hq.1 ⟨_, _, rfl, rfl⟩ _ _ rfl rfl) rfl ⟨by rw [hE, hV]; rfl, hq.2⟩

end Go.Proofs.YtalcinepeofmcaaDoor
