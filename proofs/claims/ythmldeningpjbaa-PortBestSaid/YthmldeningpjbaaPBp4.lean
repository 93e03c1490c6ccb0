/- slices.ContainsFunc with closures that only read (printed by wip/tools/anyf.py) -/
import Derived.Test.YthmldeningpjbaaPBp3
set_option linter.unusedVariables false
set_option linter.unusedSimpArgs false
namespace Go.Proofs.Ythmldeningpjbaa
open Go Go.RowKit Sp Pt
set_option linter.unusedVariables false

set_option maxHeartbeats 1000000 in
theorem idxBad_any (f : Int → Bool) (A : Option Addr) (c : Nat) (l : List Int) (w : World) (hr : Rd w 1 A l.length (ints l)) (hm : l.length ≤ 9223372036854775807)
    (hf : ∀ x ∈ l, ∀ n, Calls Try.prog 121 #[.int .i64 x] (w.drewN n) fun e w' => e = .returned (.bool (f x)) ∧ ∃ m, w' = w.drewN m) :
    Calls Try.prog 76 #[.slice A l.length c, .func (.func 121) #[] #[]] w fun e w' => ∃ r : Int, e = .returned (.int .i64 r) ∧ decide (0 ≤ r) = l.any f ∧ ∃ m, w' = w.drewN m := by
  go_enter Try.func76, Try.ntmps76
  go_wp2_with fail
  go_loopg [8] (l.length) (fun g i wr => ∃ k : Nat, g + k = l.length ∧ i = .int .i64 k ∧ (l.take k).any f = false ∧ ∃ m, wr = w.drewN m)
  case atStart => exact ⟨0, rfl, rfl, by simp, 0, rfl⟩
  case round =>
    obtain ⟨k, hk, rfl, hb, m, rfl⟩ := hrel
    have HB := Lib.hid hb
    clear hb
    by_cases hlt : k < l.length
    · obtain ⟨b, off, rfl, hbb, hc⟩ := hr.2 (by omega)
      have c0 := hc k _ (ints_get hlt)
      obtain ⟨x, hx⟩ : ∃ x, x = l.getD k 0 := ⟨_, rfl⟩
      rw [← hx] at c0
      have hx' : l[k] = x := by rw [hx]; simp [hlt]
      have H := hf x (by rw [← hx']; exact List.getElem_mem _) m
      obtain ⟨z, hz⟩ : ∃ z, z = f x := ⟨_, rfl⟩
      rw [← hz] at H
      have hs : (l.take (k + 1)).any f = z := by rw [List.take_succ_eq_append_getElem hlt, List.any_append, HB.out, hx', hz]; simp
      have HH := Lib.hid (And.intro H hs)
      clear H hs hz hx' hx hc hr hf
      cases z
      · go_wp2_with (go_at_call 121; refine HH.out.1.mono ?_; rintro e w' ⟨rfl, m', rfl⟩)
        go_roundg (gk - 1)
        case measure => omega
        case rel => exact ⟨k + 1, by omega, by go_num, HH.out.2, m', rfl⟩
      · go_wp2_with (go_at_call 121; refine HH.out.1.mono ?_; rintro e w' ⟨rfl, m', rfl⟩)
        go_ret
        refine ⟨k, rfl, ?_, m', rfl⟩
        have h1 : l.any f = true := by
          obtain ⟨y, hy, hfy⟩ := List.any_eq_true.1 HH.out.2
          exact List.any_eq_true.2 ⟨y, List.mem_of_mem_take hy, hfy⟩
        rw [h1]; simp
    · obtain rfl : k = l.length := by omega
      go_wp2_with fail
      go_ret
      exact ⟨-1, rfl, by have := HB.out; rw [List.take_length] at this; rw [this]; simp, m, rfl⟩

theorem anyBad_any (f : Int → Bool) (A : Option Addr) (c : Nat) (l : List Int) (w : World) (hr : Rd w 1 A l.length (ints l)) (hm : l.length ≤ 9223372036854775807)
    (hf : ∀ x ∈ l, ∀ n, Calls Try.prog 121 #[.int .i64 x] (w.drewN n) fun e w' => e = .returned (.bool (f x)) ∧ ∃ m, w' = w.drewN m) :
    Calls Try.prog 20 #[.slice A l.length c, .func (.func 121) #[] #[]] w fun e w' => e = .returned (.bool (l.any f)) ∧ ∃ m, w' = w.drewN m := by
  have H := idxBad_any f  A c l w hr hm hf
  clear hf
  go_enter Try.func20, Try.ntmps20
  go_wp2_with (go_at_call 76; refine H.mono ?_; rintro e w' ⟨r, rfl, hd, m, rfl⟩; have HD := Lib.hid hd; clear hd)
  go_ret
  exact ⟨by rw [← HD.out]; rfl, m, rfl⟩

set_option maxHeartbeats 1000000 in
theorem idxOver_any (f : Int → Bool) (c0 c1 : Value) (A : Option Addr) (c : Nat) (l : List Int) (w : World) (hr : Rd w 1 A l.length (ints l)) (hm : l.length ≤ 9223372036854775807)
    (hf : ∀ x ∈ l, ∀ n, Calls Try.prog 138 #[.int .i64 x, c0, c1] (w.drewN n) fun e w' => e = .returned (.bool (f x)) ∧ ∃ m, w' = w.drewN m) :
    Calls Try.prog 76 #[.slice A l.length c, .func (.func 138) #[] #[c0, c1]] w fun e w' => ∃ r : Int, e = .returned (.int .i64 r) ∧ decide (0 ≤ r) = l.any f ∧ ∃ m, w' = w.drewN m := by
  go_enter Try.func76, Try.ntmps76
  go_wp2_with fail
  go_loopg [8] (l.length) (fun g i wr => ∃ k : Nat, g + k = l.length ∧ i = .int .i64 k ∧ (l.take k).any f = false ∧ ∃ m, wr = w.drewN m)
  case atStart => exact ⟨0, rfl, rfl, by simp, 0, rfl⟩
  case round =>
    obtain ⟨k, hk, rfl, hb, m, rfl⟩ := hrel
    have HB := Lib.hid hb
    clear hb
    by_cases hlt : k < l.length
    · obtain ⟨b, off, rfl, hbb, hc⟩ := hr.2 (by omega)
      have c0 := hc k _ (ints_get hlt)
      obtain ⟨x, hx⟩ : ∃ x, x = l.getD k 0 := ⟨_, rfl⟩
      rw [← hx] at c0
      have hx' : l[k] = x := by rw [hx]; simp [hlt]
      have H := hf x (by rw [← hx']; exact List.getElem_mem _) m
      obtain ⟨z, hz⟩ : ∃ z, z = f x := ⟨_, rfl⟩
      rw [← hz] at H
      have hs : (l.take (k + 1)).any f = z := by rw [List.take_succ_eq_append_getElem hlt, List.any_append, HB.out, hx', hz]; simp
      have HH := Lib.hid (And.intro H hs)
      clear H hs hz hx' hx hc hr hf
      cases z
      · go_wp2_with (go_at_call 138; refine HH.out.1.mono ?_; rintro e w' ⟨rfl, m', rfl⟩)
        go_roundg (gk - 1)
        case measure => omega
        case rel => exact ⟨k + 1, by omega, by go_num, HH.out.2, m', rfl⟩
      · go_wp2_with (go_at_call 138; refine HH.out.1.mono ?_; rintro e w' ⟨rfl, m', rfl⟩)
        go_ret
        refine ⟨k, rfl, ?_, m', rfl⟩
        have h1 : l.any f = true := by
          obtain ⟨y, hy, hfy⟩ := List.any_eq_true.1 HH.out.2
          exact List.any_eq_true.2 ⟨y, List.mem_of_mem_take hy, hfy⟩
        rw [h1]; simp
    · obtain rfl : k = l.length := by omega
      go_wp2_with fail
      go_ret
      exact ⟨-1, rfl, by have := HB.out; rw [List.take_length] at this; rw [this]; simp, m, rfl⟩

theorem anyOver_any (f : Int → Bool) (c0 c1 : Value) (A : Option Addr) (c : Nat) (l : List Int) (w : World) (hr : Rd w 1 A l.length (ints l)) (hm : l.length ≤ 9223372036854775807)
    (hf : ∀ x ∈ l, ∀ n, Calls Try.prog 138 #[.int .i64 x, c0, c1] (w.drewN n) fun e w' => e = .returned (.bool (f x)) ∧ ∃ m, w' = w.drewN m) :
    Calls Try.prog 20 #[.slice A l.length c, .func (.func 138) #[] #[c0, c1]] w fun e w' => e = .returned (.bool (l.any f)) ∧ ∃ m, w' = w.drewN m := by
  have H := idxOver_any f c0 c1 A c l w hr hm hf
  clear hf
  go_enter Try.func20, Try.ntmps20
  go_wp2_with (go_at_call 76; refine H.mono ?_; rintro e w' ⟨r, rfl, hd, m, rfl⟩; have HD := Lib.hid hd; clear hd)
  go_ret
  exact ⟨by rw [← HD.out]; rfl, m, rfl⟩

set_option maxHeartbeats 1000000 in
theorem idxPathSlot_any (f : Int → Bool) (c0 : Value) (A : Option Addr) (c : Nat) (l : List Int) (w : World) (hr : Rd w 1 A l.length (ints l)) (hm : l.length ≤ 9223372036854775807)
    (hf : ∀ x ∈ l, ∀ n, Calls Try.prog 109 #[.int .i64 x, c0] (w.drewN n) fun e w' => e = .returned (.bool (f x)) ∧ ∃ m, w' = w.drewN m) :
    Calls Try.prog 76 #[.slice A l.length c, .func (.func 109) #[] #[c0]] w fun e w' => ∃ r : Int, e = .returned (.int .i64 r) ∧ decide (0 ≤ r) = l.any f ∧ ∃ m, w' = w.drewN m := by
  go_enter Try.func76, Try.ntmps76
  go_wp2_with fail
  go_loopg [8] (l.length) (fun g i wr => ∃ k : Nat, g + k = l.length ∧ i = .int .i64 k ∧ (l.take k).any f = false ∧ ∃ m, wr = w.drewN m)
  case atStart => exact ⟨0, rfl, rfl, by simp, 0, rfl⟩
  case round =>
    obtain ⟨k, hk, rfl, hb, m, rfl⟩ := hrel
    have HB := Lib.hid hb
    clear hb
    by_cases hlt : k < l.length
    · obtain ⟨b, off, rfl, hbb, hc⟩ := hr.2 (by omega)
      have c0 := hc k _ (ints_get hlt)
      obtain ⟨x, hx⟩ : ∃ x, x = l.getD k 0 := ⟨_, rfl⟩
      rw [← hx] at c0
      have hx' : l[k] = x := by rw [hx]; simp [hlt]
      have H := hf x (by rw [← hx']; exact List.getElem_mem _) m
      obtain ⟨z, hz⟩ : ∃ z, z = f x := ⟨_, rfl⟩
      rw [← hz] at H
      have hs : (l.take (k + 1)).any f = z := by rw [List.take_succ_eq_append_getElem hlt, List.any_append, HB.out, hx', hz]; simp
      have HH := Lib.hid (And.intro H hs)
      clear H hs hz hx' hx hc hr hf
      cases z
      · go_wp2_with (go_at_call 109; refine HH.out.1.mono ?_; rintro e w' ⟨rfl, m', rfl⟩)
        go_roundg (gk - 1)
        case measure => omega
        case rel => exact ⟨k + 1, by omega, by go_num, HH.out.2, m', rfl⟩
      · go_wp2_with (go_at_call 109; refine HH.out.1.mono ?_; rintro e w' ⟨rfl, m', rfl⟩)
        go_ret
        refine ⟨k, rfl, ?_, m', rfl⟩
        have h1 : l.any f = true := by
          obtain ⟨y, hy, hfy⟩ := List.any_eq_true.1 HH.out.2
          exact List.any_eq_true.2 ⟨y, List.mem_of_mem_take hy, hfy⟩
        rw [h1]; simp
    · obtain rfl : k = l.length := by omega
      go_wp2_with fail
      go_ret
      exact ⟨-1, rfl, by have := HB.out; rw [List.take_length] at this; rw [this]; simp, m, rfl⟩

theorem anyPathSlot_any (f : Int → Bool) (c0 : Value) (A : Option Addr) (c : Nat) (l : List Int) (w : World) (hr : Rd w 1 A l.length (ints l)) (hm : l.length ≤ 9223372036854775807)
    (hf : ∀ x ∈ l, ∀ n, Calls Try.prog 109 #[.int .i64 x, c0] (w.drewN n) fun e w' => e = .returned (.bool (f x)) ∧ ∃ m, w' = w.drewN m) :
    Calls Try.prog 20 #[.slice A l.length c, .func (.func 109) #[] #[c0]] w fun e w' => e = .returned (.bool (l.any f)) ∧ ∃ m, w' = w.drewN m := by
  have H := idxPathSlot_any f c0 A c l w hr hm hf
  clear hf
  go_enter Try.func20, Try.ntmps20
  go_wp2_with (go_at_call 76; refine H.mono ?_; rintro e w' ⟨r, rfl, hd, m, rfl⟩; have HD := Lib.hid hd; clear hd)
  go_ret
  exact ⟨by rw [← HD.out]; rfl, m, rfl⟩

set_option maxHeartbeats 1000000 in
theorem idxThick_any (f : Int → Bool) (c0 c1 c2 : Value) (A : Option Addr) (c : Nat) (l : List Int) (w : World) (hr : Rd w 1 A l.length (ints l)) (hm : l.length ≤ 9223372036854775807)
    (hf : ∀ x ∈ l, ∀ n, Calls Try.prog 111 #[.int .i64 x, c0, c1, c2] (w.drewN n) fun e w' => e = .returned (.bool (f x)) ∧ ∃ m, w' = w.drewN m) :
    Calls Try.prog 76 #[.slice A l.length c, .func (.func 111) #[] #[c0, c1, c2]] w fun e w' => ∃ r : Int, e = .returned (.int .i64 r) ∧ decide (0 ≤ r) = l.any f ∧ ∃ m, w' = w.drewN m := by
  go_enter Try.func76, Try.ntmps76
  go_wp2_with fail
  go_loopg [8] (l.length) (fun g i wr => ∃ k : Nat, g + k = l.length ∧ i = .int .i64 k ∧ (l.take k).any f = false ∧ ∃ m, wr = w.drewN m)
  case atStart => exact ⟨0, rfl, rfl, by simp, 0, rfl⟩
  case round =>
    obtain ⟨k, hk, rfl, hb, m, rfl⟩ := hrel
    have HB := Lib.hid hb
    clear hb
    by_cases hlt : k < l.length
    · obtain ⟨b, off, rfl, hbb, hc⟩ := hr.2 (by omega)
      have c0 := hc k _ (ints_get hlt)
      obtain ⟨x, hx⟩ : ∃ x, x = l.getD k 0 := ⟨_, rfl⟩
      rw [← hx] at c0
      have hx' : l[k] = x := by rw [hx]; simp [hlt]
      have H := hf x (by rw [← hx']; exact List.getElem_mem _) m
      obtain ⟨z, hz⟩ : ∃ z, z = f x := ⟨_, rfl⟩
      rw [← hz] at H
      have hs : (l.take (k + 1)).any f = z := by rw [List.take_succ_eq_append_getElem hlt, List.any_append, HB.out, hx', hz]; simp
      have HH := Lib.hid (And.intro H hs)
      clear H hs hz hx' hx hc hr hf
      cases z
      · go_wp2_with (go_at_call 111; refine HH.out.1.mono ?_; rintro e w' ⟨rfl, m', rfl⟩)
        go_roundg (gk - 1)
        case measure => omega
        case rel => exact ⟨k + 1, by omega, by go_num, HH.out.2, m', rfl⟩
      · go_wp2_with (go_at_call 111; refine HH.out.1.mono ?_; rintro e w' ⟨rfl, m', rfl⟩)
        go_ret
        refine ⟨k, rfl, ?_, m', rfl⟩
        have h1 : l.any f = true := by
          obtain ⟨y, hy, hfy⟩ := List.any_eq_true.1 HH.out.2
          exact List.any_eq_true.2 ⟨y, List.mem_of_mem_take hy, hfy⟩
        rw [h1]; simp
    · obtain rfl : k = l.length := by omega
      go_wp2_with fail
      go_ret
      exact ⟨-1, rfl, by have := HB.out; rw [List.take_length] at this; rw [this]; simp, m, rfl⟩

theorem anyThick_any (f : Int → Bool) (c0 c1 c2 : Value) (A : Option Addr) (c : Nat) (l : List Int) (w : World) (hr : Rd w 1 A l.length (ints l)) (hm : l.length ≤ 9223372036854775807)
    (hf : ∀ x ∈ l, ∀ n, Calls Try.prog 111 #[.int .i64 x, c0, c1, c2] (w.drewN n) fun e w' => e = .returned (.bool (f x)) ∧ ∃ m, w' = w.drewN m) :
    Calls Try.prog 20 #[.slice A l.length c, .func (.func 111) #[] #[c0, c1, c2]] w fun e w' => e = .returned (.bool (l.any f)) ∧ ∃ m, w' = w.drewN m := by
  have H := idxThick_any f c0 c1 c2 A c l w hr hm hf
  clear hf
  go_enter Try.func20, Try.ntmps20
  go_wp2_with (go_at_call 76; refine H.mono ?_; rintro e w' ⟨r, rfl, hd, m, rfl⟩; have HD := Lib.hid hd; clear hd)
  go_ret
  exact ⟨by rw [← HD.out]; rfl, m, rfl⟩
end Go.Proofs.Ythmldeningpjbaa
/- slices.Contains over []int; the closure of port.start. -/
namespace Go.Proofs.Ythmldeningpjbaa
open Go Go.RowKit Sp Pt
set_option linter.unusedVariables false

set_option maxHeartbeats 1000000 in
theorem indexI_any (A : Option Addr) (c : Nat) (l : List Int) (t : Int) (w : World) (hr : Rd w 1 A l.length (ints l)) (hm : l.length ≤ 9223372036854775807) :
    Calls Try.prog 77 #[.slice A l.length c, .int .i64 t] w fun e w' => ∃ r : Int, e = .returned (.int .i64 r) ∧ decide (0 ≤ r) = l.contains t ∧ w = w' := by
  go_enter Try.func77, Try.ntmps77
  go_wp2_with fail
  go_loopg [8] (l.length) (fun g i wr => ∃ k : Nat, g + k = l.length ∧ i = .int .i64 k ∧ (l.take k).contains t = false ∧ w = wr)
  case atStart => exact ⟨0, rfl, rfl, by simp, rfl⟩
  case round =>
    obtain ⟨k, hk, rfl, hb, rfl⟩ := hrel
    have HB := Lib.hid hb
    clear hb
    by_cases hlt : k < l.length
    · obtain ⟨b, off, rfl, hbb, hc⟩ := hr.2 (by omega)
      have c0 := hc k _ (ints_get hlt)
      obtain ⟨x, hx⟩ : ∃ x, x = l.getD k 0 := ⟨_, rfl⟩
      rw [← hx] at c0
      have hx' : l[k] = x := by rw [hx]; simp [hlt]
      have HX := Lib.hid hx'
      clear hx hx' hc hr
      go_wp2_with fail
      · go_ret
        refine ⟨k, rfl, ?_, rfl⟩
        have h1 : l.contains t = true := by
          rw [List.contains_iff_mem]
          have : l[k] ∈ l := List.getElem_mem _
          rw [HX.out] at this
          rename_i h
          have h' : t = x := by simpa using h
          rw [h']; exact this
        rw [h1]; simp
      · go_roundg (gk - 1)
        case measure => omega
        case rel =>
          refine ⟨k + 1, by omega, by go_num, ?_, rfl⟩
          rw [List.take_succ_eq_append_getElem hlt, HX.out]
          have h2 := HB.out
          simp only [List.contains_eq_mem, decide_eq_false_iff_not, List.mem_append, List.mem_singleton] at h2 ⊢
          rintro (h | h)
          · exact h2 h
          · simp_all
    · obtain rfl : k = l.length := by omega
      go_wp2_with fail
      go_ret
      exact ⟨-1, rfl, by have := HB.out; rw [List.take_length] at this; rw [this]; simp, rfl⟩

theorem contI_any (A : Option Addr) (c : Nat) (l : List Int) (t : Int) (w : World) (hr : Rd w 1 A l.length (ints l)) (hm : l.length ≤ 9223372036854775807) :
    Calls Try.prog 22 #[.slice A l.length c, .int .i64 t] w fun e w' => e = .returned (.bool (l.contains t)) ∧ w = w' := by
  have H := indexI_any A c l t w hr hm
  go_enter Try.func22, Try.ntmps22
  go_wp2_with (go_at_call 77; refine H.mono ?_; rintro e w' ⟨r, rfl, hd, rfl⟩; have HD := Lib.hid hd; clear hd)
  go_ret
  exact ⟨by rw [← HD.out]; rfl, rfl⟩

theorem stBad_any (n : Int) (w : World) :
    Calls Try.prog 121 #[.int .i64 n] w fun e w' => e = .returned (.bool (!within n 0 1000000)) ∧ w = w' := by
  go_enter Try.func121, Try.ntmps121
  go_wp2_with (go_at_call 80; refine (ptWithin_any _ _ _ _).mono ?_; rintro e w' ⟨rfl, rfl⟩)
  go_ret
  exact ⟨rfl, rfl⟩
end Go.Proofs.Ythmldeningpjbaa
/- port.Check -/
namespace Go.Proofs.Ythmldeningpjbaa
open Go Go.RowKit Sp Pt
set_option linter.unusedVariables false

theorem all_take_succ {T : Type} {f : T → Bool} {l : List T} {k : Nat} (hk : k < l.length) (h : (l.take k).all f = true) (hf : f l[k] = true) : (l.take (k + 1)).all f = true := by
  rw [List.take_succ_eq_append_getElem hk, List.all_append, h]; simp [hf]
theorem all_not {T : Type} {f : T → Bool} {l : List T} {k : Nat} (hk : k < l.length) (hf : f l[k] = false) : l.all f = false := by
  cases h : l.all f with
  | false => rfl
  | true => rw [List.all_eq_true.1 h _ (List.getElem_mem hk)] at hf; cases hf
theorem checkP_1 {p : Prt} (h1 : (within p.chs.length 1 6 && within p.bts.length 1 4) = false) : checkP p = 2 := by unfold checkP; rw [if_pos h1]
theorem checkP_2 {p : Prt} (h1 : within p.chs.length 1 6 = true) (h2 : within p.bts.length 1 4 = true) (h3 : within p.tugs 0 20 = false) : checkP p = 100 := by unfold checkP; rw [h1, h2, h3]; rfl
theorem checkP_3 {p : Prt} (h1 : within p.chs.length 1 6 = true) (h2 : within p.bts.length 1 4 = true) (h3 : within p.tugs 0 20 = true) (h4 : p.chs.all chOk = false) : checkP p = 100 := by unfold checkP; rw [h1, h2, h3, h4]; rfl
theorem checkP_4 {p : Prt} (h1 : within p.chs.length 1 6 = true) (h2 : within p.bts.length 1 4 = true) (h3 : within p.tugs 0 20 = true) (h4 : p.chs.all chOk = true) (h5 : p.bts.all (btOk p.chs.length) = false) : checkP p = 100 := by unfold checkP; rw [h1, h2, h3, h4, h5]; rfl
theorem checkP_5 {p : Prt} (h1 : within p.chs.length 1 6 = true) (h2 : within p.bts.length 1 4 = true) (h3 : within p.tugs 0 20 = true) (h4 : p.chs.all chOk = true) (h5 : p.bts.all (btOk p.chs.length) = true) : checkP p = 0 := by unfold checkP; rw [h1, h2, h3, h4, h5]; rfl
theorem pathOk_no {n : Int} {l : List Int} : ∀ {k m : Nat}, k < m → (within (l.getD k 0) 0 (n - 1) && !(l.take k).contains (l.getD k 0)) = false → pathOk n l m = false
  | k, 0, h, _ => absurd h (by omega)
  | k, m + 1, h, hf => by
    by_cases e : k = m
    · subst e; rw [pathOk, hf]; simp
    · rw [pathOk, pathOk_no (by omega) hf]; simp

set_option maxRecDepth 100000 in
set_option maxHeartbeats 4000000 in
theorem ptCheck_any (D : Nat) (Ac : Option Addr) (cc : Nat) (Ab : Option Addr) (cb : Nat) (p : Prt) (w : World) (hp : PrtB D w Ac cc Ab cb p) (hD : D ≤ w.heap.size) :
    Calls Try.prog 50 #[.agg (prtV Ac cc Ab cb p)] w fun e w' => e = .returned (.int .i64 (checkP p)) ∧ Below w.heap.size w w' := by
  have b0 : Below w.heap.size w (w.alloc (.cells (prtV Ac cc Ab cb p) 26)) := (Below.refl _ _).alloc (Nat.le_refl _) _
  cases h1 : within p.chs.length 1 6
  · go_enter Try.func50, Try.ntmps50
    go_wp2_with (go_at_call 80; refine (ptWithin_any _ _ _ _).mono ?_; rintro e w' ⟨rfl, rfl⟩)
    go_ret
    exact ⟨by rw [checkP_1 (by rw [h1]; rfl)]; rfl, b0⟩
  cases h2 : within p.bts.length 1 4
  · go_enter Try.func50, Try.ntmps50
    go_wp2_with (go_at_call 80; refine (ptWithin_any _ _ _ _).mono ?_; rintro e w' ⟨rfl, rfl⟩)
    go_ret
    exact ⟨by rw [checkP_1 (by rw [h1, h2]; rfl)]; rfl, b0⟩
  cases h3 : within p.tugs 0 20
  · go_enter Try.func50, Try.ntmps50
    go_wp2_with (go_at_call 80; refine (ptWithin_any _ _ _ _).mono ?_; rintro e w' ⟨rfl, rfl⟩)
    go_ret
    exact ⟨by rw [checkP_2 h1 h2 h3]; rfl, b0⟩
  have hl1 : 1 ≤ p.chs.length ∧ p.chs.length ≤ 6 := by simp [within] at h1; omega
  have hl2 : 1 ≤ p.bts.length ∧ p.bts.length ≤ 4 := by simp [within] at h2; omega
  obtain ⟨bc, oc, rfl, hbc, hcc⟩ := hp.chs.2 (by omega)
  have HP := Lib.hid hp
  have HB := Lib.hid hcc
  clear hp hcc
  go_enter Try.func50, Try.ntmps50
  go_upto_region 5 with (go_at_call 80; refine (ptWithin_any _ _ _ _).mono ?_; rintro e w' ⟨rfl, rfl⟩)
  obtain ⟨W, hW⟩ : ∃ W, W = w.alloc (.cells (prtV (some ⟨bc, oc, none⟩) cc Ab cb p) 26) := ⟨_, rfl⟩
  obtain ⟨bx, hbx⟩ : ∃ bx, bx = w.heap.size := ⟨_, rfl⟩
  have fp : W.heap[bx]? = some (.cells (prtV (some ⟨bc, oc, none⟩) cc Ab cb p) 26 (0, 0)) := by rw [hW, hbx]; exact heap_alloc_new _ _
  rw [← hW, ← hbx]
  have b1 : Below w.heap.size w W := by rw [hW]; exact b0
  have f0 : W.cell? ⟨bx, 0, none⟩ = some (.slice (some ⟨bc, oc, none⟩) p.chs.length cc) := (cell_of_heap fp 0).trans rfl
  have f1 : W.cell? ⟨bx, 1, none⟩ = some (.slice Ab p.bts.length cb) := (cell_of_heap fp 1).trans rfl
  have hxW := heap_lt fp
  have HW := Lib.hid (And.intro b1 (And.intro h1 (And.intro h2 h3)))
  clear hW hbx fp b0 b1 h1 h2 h3
  have hbcW : bc < W.heap.size := by have := HW.out.1.size; omega
  go_wp2_with fail
  go_loopg [28] (p.chs.length) (fun g i wr => ∃ k : Nat, g + k = p.chs.length ∧ i = .int .i64 k ∧ (p.chs.take k).all chOk = true ∧ Keep [] W wr)
  case atStart => exact ⟨0, rfl, rfl, by simp, Keep.refl _ _⟩
  case round =>
    obtain ⟨k, hk, rfl, hok, hK⟩ := hrel
    by_cases hlt : k < p.chs.length
    · obtain ⟨s0, s1, s2⟩ := chcs_get hlt
      obtain ⟨x, hx⟩ : ∃ x, x = p.chs[k] := ⟨_, rfl⟩
      rw [← hx] at s0 s1 s2
      have bB : Below w.heap.size w wr := HW.out.1.trans (hK.below HW.out.1.size (by simp))
      have cw : ∀ {o : Nat} {u : Value}, w.cell? ⟨bc, o, none⟩ = some u → wr.cell? ⟨bc, o, none⟩ = some u := fun h => (bB.cell (p := ⟨bc, _, none⟩) (show bc < w.heap.size by omega)).trans h
      have d0 := cw (HB.out _ _ s0)
      have d1 : wr.cell? ⟨bc, oc + k * 3 + 1, none⟩ = some (.int .i64 x.frost) := cw (HB.out _ _ s1)
      have d2 : wr.cell? ⟨bc, oc + k * 3 + 2, none⟩ = some (.int .i64 x.clear) := cw (HB.out _ _ s2)
      have hbl : bc < wr.heap.size := by have := hK.size; omega
      have HI := Lib.hid (And.intro hok (And.intro hK (And.intro bB hx)))
      clear s0 s1 s2 hok hK hx bB cw f0 f1
      go_wp2_with (go_at_call 80; refine (ptWithin_any _ _ _ _).mono ?_; rintro e w' ⟨rfl, rfl⟩)
      any_goals (go_ret; refine ⟨?_, HI.out.2.2.1.alloc HI.out.2.2.1.size _⟩; rw [checkP_3 HW.out.2.1 HW.out.2.2.1 HW.out.2.2.2 (all_not hlt (by rw [← HI.out.2.2.2]; simp_all [chOk]))]; rfl)
      go_roundg (gk - 1)
      case measure => omega
      case rel => exact ⟨k + 1, by omega, by go_num, all_take_succ hlt HI.out.1 (by rw [← HI.out.2.2.2]; simp_all [chOk]), HI.out.2.1.alloc _⟩
    · obtain rfl : k = p.chs.length := by omega
      have hal : p.chs.all chOk = true := by rwa [List.take_length] at hok
      have HC := Lib.hid (And.intro hal hK)
      have f1' := hK.cell f1 (by simp)
      have f0' := hK.cell f0 (by simp)
      have hxr : bx < wr.heap.size := by have := hK.size; omega
      clear hal hok hK f0 f1 hk
      obtain ⟨w1, hw1⟩ : ∃ w1, w1 = wr := ⟨_, rfl⟩
      subst hw1
      go_wp2_with fail
      go_loopg [52] (p.bts.length) (fun g i wq => ∃ k : Nat, g + k = p.bts.length ∧ i = .int .i64 k ∧ (p.bts.take k).all (btOk p.chs.length) = true ∧ Keep [] w1 wq)
      case atStart => exact ⟨0, rfl, rfl, by simp, Keep.refl _ _⟩
      case round =>
        obtain ⟨w2, hw2⟩ : ∃ w2, w2 = wr := ⟨_, rfl⟩
        subst hw2
        obtain ⟨k, hk, rfl, hok, hK⟩ := hrel
        by_cases hlt : k < p.bts.length
        · obtain ⟨b, off, Ak, ck, hAb, hbD, d1, d2, d3⟩ := HP.out.bts k hlt
          obtain ⟨x, hx⟩ : ∃ x, x = p.bts[k] := ⟨_, rfl⟩
          rw [← hx] at d1 d2 d3
          obtain ⟨dp, pth⟩ := x
          simp only at d1 d2 d3
          have bB : Below w.heap.size w w2 := (HW.out.1.trans (HC.out.2.below HW.out.1.size (by simp))).trans (hK.below (by have := HW.out.1.size; have := HC.out.2.size; omega) (by simp))
          have d1' := (bB.cell (p := ⟨b, off + k * 2, none⟩) (show b < w.heap.size by omega)).trans d1
          have d2' := (bB.cell (p := ⟨b, off + k * 2 + 1, none⟩) (show b < w.heap.size by omega)).trans d2
          have d3' : PathB w.heap.size w2 Ak ck pth := (d3.mono hD).below bB
          have hbl : b < w2.heap.size := by have := bB.size; omega
          have g1 := hK.cell f1' (by simp)
          have g0 := hK.cell f0' (by simp)
          have hxq : bx < w2.heap.size := by have := hK.size; omega
          have hkb : btOk p.chs.length p.bts[k] = (within dp 10 3000 && (!decide (pth.length = 0) && pathOk p.chs.length pth pth.length)) := by rw [← hx]; rfl
          have hbad : btOk p.chs.length p.bts[k] = false → checkP p = 100 := fun h => checkP_4 HW.out.2.1 HW.out.2.2.1 HW.out.2.2.2 HC.out.1 (all_not hlt h)
          have hpl := d3'.1.1
          have hpc := d3'.2.1
          have hpm := d3'.2.2.1
          have HI := Lib.hid (And.intro hok (And.intro hK (And.intro bB (And.intro hkb (And.intro hbad d3')))))
          subst hAb
          clear hok hK hx bB d1 d2 d3 d3' hkb hbad hpl f0' f1'
          cases hz : within dp 10 3000
          · go_wp2_with (go_at_call 80; refine (ptWithin_any _ _ _ _).mono ?_; rintro e w' ⟨rfl, rfl⟩)
            go_ret
            exact ⟨by rw [HI.out.2.2.2.2.1 (by rw [HI.out.2.2.2.1, hz]; rfl)]; rfl, HI.out.2.2.1.alloc HI.out.2.2.1.size _⟩
          by_cases hn : pth.length = 0
          · rw [hn] at d2' hpc
            go_wp2_with (go_at_call 80; refine (ptWithin_any _ _ _ _).mono ?_; rintro e w' ⟨rfl, rfl⟩)
            go_ret
            exact ⟨by rw [HI.out.2.2.2.2.1 (by rw [HI.out.2.2.2.1, hz, hn]; rfl)]; rfl, HI.out.2.2.1.alloc HI.out.2.2.1.size _⟩
          have hn0 : ((pth.length : Int) == 0) = false := beq_eq_false_iff_ne.2 (by omega)
          obtain ⟨gb, rfl⟩ : ∃ gb, gb = gk := ⟨_, rfl⟩
          go_upto_region 16 with (go_at_call 80; refine (ptWithin_any _ _ _ _).mono ?_; rintro e w' ⟨rfl, rfl⟩)
          obtain ⟨W3, hW3⟩ : ∃ W, W = w2.alloc (.cells #[.int .i64 dp, .slice Ak pth.length ck] 53) := ⟨_, rfl⟩
          obtain ⟨bq, hbq⟩ : ∃ bq, bq = w2.heap.size := ⟨_, rfl⟩
          have b3 : Below w2.heap.size w2 W3 := by rw [hW3]; exact (Below.refl _ _).alloc (Nat.le_refl _) _
          have q1 : W3.cell? ⟨bq, 1, none⟩ = some (.slice Ak pth.length ck) := by rw [hW3, hbq]; simp [World.cell?_alloc_new]
          have hqw : bq < W3.heap.size := by rw [hW3, hbq]; simp
          have g0' := (b3.cell (p := ⟨bx, 0, none⟩) (show bx < w2.heap.size from hxq)).trans g0
          have g1' := (b3.cell (p := ⟨bx, 1, none⟩) (show bx < w2.heap.size from hxq)).trans g1
          have p3 : PathB w.heap.size W3 Ak ck pth := HI.out.2.2.2.2.2.below (b3.mono HI.out.2.2.1.size)
          obtain ⟨bp, op, hAk, hbp, hpc3⟩ := p3.1.2 (by omega)
          have bwp : bp < W3.heap.size := by have := b3.size; have := HI.out.2.2.1.size; omega
          have hp0 := p3.2.1
          rw [← hW3, ← hbq]
          have H3 := Lib.hid (And.intro b3 (And.intro p3 (And.intro hz (And.intro hpc3 (show ¬ pth.length = 0 from hn)))))
          have hxq3 : bx < W3.heap.size := by have := b3.size; omega
          subst hAk
          clear hW3 hbq b3 g0 g1 d1' d2' p3 hz hpc3 hpc
          have hnn : 0 < pth.length := by omega
          clear hn hn0
          go_wp2_with fail
          go_loopg [69] (pth.length) (fun g i wi => ∃ j : Nat, g + j = pth.length ∧ i = .int .i64 j ∧ pathOk p.chs.length pth j = true ∧ ∃ m, wi = W3.drewN m)
          case atStart => exact ⟨0, rfl, rfl, rfl, 0, rfl⟩
          case round =>
            obtain ⟨j, hj, rfl, hjk, m, rfl⟩ := hrel
            by_cases hlj : j < pth.length
            · obtain ⟨n, hn⟩ : ∃ n, n = pth.getD j 0 := ⟨_, rfl⟩
              have c0 : W3.cell? ⟨bp, op + j, none⟩ = some (.int .i64 n) := by rw [hn]; exact H3.out.2.2.2.1 j _ (ints_get hlj)
              have hS : pathOk p.chs.length pth (j + 1) = (pathOk p.chs.length pth j && (within n 0 ((p.chs.length : Int) - 1) && !(pth.take j).contains n)) := by rw [hn]; rfl
              have hN : (within n 0 ((p.chs.length : Int) - 1) && !(pth.take j).contains n) = false → pathOk p.chs.length pth pth.length = false := fun h => pathOk_no hlj (by rw [← hn]; exact h)
              have htk : (pth.take j).length = j := by rw [List.length_take]; omega
              have hct := contI_any (some ⟨bp, op, none⟩) ck (pth.take j) n (W3.drewN m) (by
                rw [htk]
                refine ⟨by simp [ints]; omega, fun _ => ⟨bp, op, rfl, bwp, fun i u hu => H3.out.2.2.2.1 i u ?_⟩⟩
                have hi : i < (pth.take j).length := by have := (List.getElem?_eq_some_iff.1 hu).1; simpa [ints] using this
                rw [ints_get hi] at hu
                rw [ints_get (by omega), ← hu]
                simp [List.getD_eq_getElem?_getD, List.getElem?_take, show i < j from by omega]) (by omega)
              rw [htk] at hct
              obtain ⟨z, hzz⟩ : ∃ z, z = (pth.take j).contains n := ⟨_, rfl⟩
              rw [← hzz] at hct hS hN
              have HJ := Lib.hid (And.intro hct (And.intro hS (And.intro hN (And.intro hjk hn))))
              clear hct hS hN hjk hn hzz
              cases hw : within n 0 ((p.chs.length : Int) - 1)
              · go_wp2_with (go_at_call 80; refine (ptWithin_any _ _ _ _).mono ?_; rintro e w' ⟨rfl, rfl⟩)
                go_ret
                refine ⟨?_, (HI.out.2.2.1.trans (H3.out.1.mono HI.out.2.2.1.size)).trans ⟨rfl, rfl, rfl, Nat.le_refl _, fun _ _ => rfl⟩⟩
                rw [HI.out.2.2.2.2.1 (by rw [HI.out.2.2.2.1, H3.out.2.2.1, HJ.out.2.2.1 (by rw [hw]; rfl)]; simp)]; rfl
              · have hjc : (j : Int) ≤ (ck : Int) := by omega
                cases z
                · go_wp2_with (first | (go_at_call 80; refine (ptWithin_any _ _ _ _).mono ?_; rintro e w' ⟨rfl, rfl⟩) | (go_at_call 22; refine HJ.out.1.mono ?_; rintro e w' ⟨rfl, rfl⟩))
                  go_roundg (gk - 1)
                  case measure => omega
                  case rel => exact ⟨j + 1, by omega, by go_num, by rw [HJ.out.2.1, HJ.out.2.2.2.1, hw]; rfl, m, rfl⟩
                · go_wp2_with (first | (go_at_call 80; refine (ptWithin_any _ _ _ _).mono ?_; rintro e w' ⟨rfl, rfl⟩) | (go_at_call 22; refine HJ.out.1.mono ?_; rintro e w' ⟨rfl, rfl⟩))
                  go_ret
                  refine ⟨?_, (HI.out.2.2.1.trans (H3.out.1.mono HI.out.2.2.1.size)).trans ⟨rfl, rfl, rfl, Nat.le_refl _, fun _ _ => rfl⟩⟩
                  rw [HI.out.2.2.2.2.1 (by rw [HI.out.2.2.2.1, H3.out.2.2.1, HJ.out.2.2.1 (by rw [hw]; rfl)]; simp)]; rfl
            · obtain rfl : j = pth.length := by omega
              have HL := Lib.hid hjk
              clear hjk
              go_wp2_with fail
              go_roundg (gb - 1)
              case measure => omega
              case rel =>
                refine ⟨k + 1, by omega, by go_num, all_take_succ hlt HI.out.1 (by rw [HI.out.2.2.2.1, H3.out.2.2.1, HL.out]; simp; have := H3.out.2.2.2.2; intro h; rw [h] at this; simp at this), ?_⟩
                exact (HI.out.2.1.trans (Keep.of_below (S := []) H3.out.1) (by simp)).drewN m
        · obtain rfl : k = p.bts.length := by omega
          have hal : p.bts.all (btOk p.chs.length) = true := by rwa [List.take_length] at hok
          have bB : Below w.heap.size w w2 := (HW.out.1.trans (HC.out.2.below HW.out.1.size (by simp))).trans (hK.below (by have := HW.out.1.size; have := HC.out.2.size; omega) (by simp))
          have HE := Lib.hid (And.intro hal bB)
          clear hal hok hK bB
          go_wp2_with fail
          go_ret
          exact ⟨by rw [checkP_5 HW.out.2.1 HW.out.2.2.1 HW.out.2.2.2 HC.out.1 HE.out.1]; rfl, HE.out.2⟩
end Go.Proofs.Ythmldeningpjbaa
/- The error of a call (printed by wip/tools/ptcall.py). -/
namespace Go.Proofs.Ythmldeningpjbaa
open Go Go.RowKit Sp Pt
set_option linter.unusedVariables false

abbrev caV (c : Cal) : Array Value := #[.int .i64 c.hour, .int .i64 c.berth, .bool c.out, .int .i64 c.draught, .int .i64 c.most, .int .i64 c.tugs]
theorem callE_b {p : Prt} {h : Int} {c : Cal} {f : Int} (h1 : (within c.berth 0 ((p.bts.length : Int) - 1) && (within c.most 0 1000000 && within c.tugs 0 20)) = false) : callE p h c f = 1 := by unfold callE; rw [if_pos h1]
theorem callE_c {p : Prt} {h : Int} {c : Cal} {f : Int} (h1 : (within c.berth 0 ((p.bts.length : Int) - 1) && (within c.most 0 1000000 && within c.tugs 0 20)) = true) : callE p h c f = if within c.draught 10 (bt p c.berth).depth = false then 100 else if within c.hour 0 (h - 1) = false then 12 else if c.hour < f then 11 else 0 := by unfold callE; rw [if_neg (by rw [h1]; decide)]

set_option maxRecDepth 100000 in
set_option maxHeartbeats 1000000 in
theorem ptCall_any (pb : Nat) (Ac : Option Addr) (cc : Nat) (Ab : Option Addr) (cb : Nat) (p : Prt) (Al : Option Addr) (cl : Nat) (As : Option Addr) (cs : Nat) (l : Pln) (c : Cal) (f : Int) (D : Nat) (w : World)
    (hp : w.heap[pb]? = some (.cells (prtV Ac cc Ab cb p) 26 (0, 0))) (hb : BtsB D w Ab p.bts) (hD : D ≤ w.heap.size) (hl : p.bts.length ≤ 1000) (hh : 1 ≤ l.hours ∧ l.hours ≤ 1000) :
    Calls Try.prog 107 #[.pointer (some ⟨pb, 0, none⟩), .agg (plnV Al cl As cs l), .agg (caV c), .int .i64 f] w fun e w' => e = .returned (.int .i64 (callE p l.hours c f)) ∧ Below w.heap.size w w' := by
  obtain ⟨hh1, hh2⟩ := hh
  obtain ⟨h0, be, ou, dr, mo, tu⟩ := c
  have p1 : w.cell? ⟨pb, 1, none⟩ = some (.slice Ab p.bts.length cb) := (cell_of_heap hp 1).trans rfl
  have hpw := heap_lt hp
  obtain ⟨a1, ha1⟩ : ∃ a, a = within be 0 ((p.bts.length : Int) - 1) := ⟨_, rfl⟩
  obtain ⟨a2, ha2⟩ : ∃ a, a = within mo 0 1000000 := ⟨_, rfl⟩
  obtain ⟨a3, ha3⟩ : ∃ a, a = within tu 0 20 := ⟨_, rfl⟩
  have k1 : ∀ wx, Calls Try.prog 80 #[.int .i64 be, .int .i64 0, .int .i64 ((p.bts.length : Int) - 1)] wx fun e w' => e = .returned (.bool a1) ∧ wx = w' := fun wx => by rw [ha1]; exact ptWithin_any _ _ _ wx
  have k2 : ∀ wx, Calls Try.prog 80 #[.int .i64 mo, .int .i64 0, .int .i64 1000000] wx fun e w' => e = .returned (.bool a2) ∧ wx = w' := fun wx => by rw [ha2]; exact ptWithin_any _ _ _ wx
  have k3 : ∀ wx, Calls Try.prog 80 #[.int .i64 tu, .int .i64 0, .int .i64 20] wx fun e w' => e = .returned (.bool a3) ∧ wx = w' := fun wx => by rw [ha3]; exact ptWithin_any _ _ _ wx
  have bb : ∀ o o', Below w.heap.size w ((w.alloc o).alloc o') := fun o o' => ((Below.refl _ _).alloc (Nat.le_refl _) _).alloc (by simp) _
  have HA := Lib.hid (And.intro ha1 (And.intro ha2 (And.intro ha3 (And.intro k1 (And.intro k2 (And.intro k3 bb))))))
  have HP := Lib.hid (And.intro hp hb)
  clear ha1 ha2 ha3 k1 k2 k3 hp hb bb
  cases a1
  · cases a2 <;> cases a3
    all_goals
      go_enter Try.func107, Try.ntmps107
      go_upto_region 1 with fail
      go_quiet ((go_at_call 80; first | with_reducible exact Calls.quiet_of_same ((HA.out.2.2.2.1 _).mono fun e W' ⟨h1, h2⟩ => ⟨h1, h2.symm⟩) | with_reducible exact Calls.quiet_of_same ((HA.out.2.2.2.2.1 _).mono fun e W' ⟨h1, h2⟩ => ⟨h1, h2.symm⟩) | with_reducible exact Calls.quiet_of_same ((HA.out.2.2.2.2.2.1 _).mono fun e W' ⟨h1, h2⟩ => ⟨h1, h2.symm⟩)))
      go_wp2_with fail
      go_ret
      exact ⟨by rw [callE_b (by rw [← HA.out.1, ← HA.out.2.1, ← HA.out.2.2.1]; rfl)]; rfl, below_drewN (HA.out.2.2.2.2.2.2 _ _) _⟩
  · cases a2
    · cases a3
      all_goals
        go_enter Try.func107, Try.ntmps107
        go_upto_region 1 with fail
        go_quiet ((go_at_call 80; first | with_reducible exact Calls.quiet_of_same ((HA.out.2.2.2.1 _).mono fun e W' ⟨h1, h2⟩ => ⟨h1, h2.symm⟩) | with_reducible exact Calls.quiet_of_same ((HA.out.2.2.2.2.1 _).mono fun e W' ⟨h1, h2⟩ => ⟨h1, h2.symm⟩) | with_reducible exact Calls.quiet_of_same ((HA.out.2.2.2.2.2.1 _).mono fun e W' ⟨h1, h2⟩ => ⟨h1, h2.symm⟩)))
        go_wp2_with fail
        go_ret
        exact ⟨by rw [callE_b (by rw [← HA.out.1, ← HA.out.2.1, ← HA.out.2.2.1]; rfl)]; rfl, below_drewN (HA.out.2.2.2.2.2.2 _ _) _⟩
    · cases a3
      · skip
        go_enter Try.func107, Try.ntmps107
        go_upto_region 1 with fail
        go_quiet ((go_at_call 80; first | with_reducible exact Calls.quiet_of_same ((HA.out.2.2.2.1 _).mono fun e W' ⟨h1, h2⟩ => ⟨h1, h2.symm⟩) | with_reducible exact Calls.quiet_of_same ((HA.out.2.2.2.2.1 _).mono fun e W' ⟨h1, h2⟩ => ⟨h1, h2.symm⟩) | with_reducible exact Calls.quiet_of_same ((HA.out.2.2.2.2.2.1 _).mono fun e W' ⟨h1, h2⟩ => ⟨h1, h2.symm⟩)))
        go_wp2_with fail
        go_ret
        exact ⟨by rw [callE_b (by rw [← HA.out.1, ← HA.out.2.1, ← HA.out.2.2.1]; rfl)]; rfl, below_drewN (HA.out.2.2.2.2.2.2 _ _) _⟩
      · have hk := HA.out.1.symm
        have hk' : 0 ≤ be ∧ be < p.bts.length := by simp [within] at hk; omega
        obtain ⟨k, hkb⟩ : ∃ k : Nat, be = k := ⟨be.toNat, by omega⟩
        have hk2 : k < p.bts.length := by omega
        obtain ⟨b, off, Ak, ck, rfl, hbD, d1, d2, d3⟩ := HP.out.2 k hk2
        have hbt : bt p be = p.bts[k] := by simp [bt, hkb, hk2]
        obtain ⟨dp, hdp⟩ : ∃ d, d = p.bts[k].depth := ⟨_, rfl⟩
        rw [← hdp] at d1
        have hbw : b < w.heap.size := by omega
        obtain ⟨a4, ha4⟩ : ∃ a, a = within dr 10 dp := ⟨_, rfl⟩
        have k4 : ∀ wx, Calls Try.prog 80 #[.int .i64 dr, .int .i64 10, .int .i64 dp] wx fun e w' => e = .returned (.bool a4) ∧ wx = w' := fun wx => by rw [ha4]; exact ptWithin_any _ _ _ wx
        have H4 := Lib.hid (And.intro k4 (And.intro ha4 (And.intro hdp hbt)))
        have hk3 : ((k : Nat) : Int) < (p.bts.length : Int) := by omega
        clear k4 ha4 hdp hbt d2 d3 hk hk'
        subst hkb
        go_enter Try.func107, Try.ntmps107
        go_upto_region 1 with fail
        go_quiet ((go_at_call 80; first | with_reducible exact Calls.quiet_of_same ((HA.out.2.2.2.1 _).mono fun e W' ⟨h1, h2⟩ => ⟨h1, h2.symm⟩) | with_reducible exact Calls.quiet_of_same ((HA.out.2.2.2.2.1 _).mono fun e W' ⟨h1, h2⟩ => ⟨h1, h2.symm⟩) | with_reducible exact Calls.quiet_of_same ((HA.out.2.2.2.2.2.1 _).mono fun e W' ⟨h1, h2⟩ => ⟨h1, h2.symm⟩)))
        go_upto_region 3 with fail
        have e0 := d1; have e1 := p1
        cases a4
        · go_quiet ((go_at_call 80; refine (H4.out.1 _).mono ?_; rintro e W1 ⟨rfl, rfl⟩; exact ⟨rfl, _, rfl⟩))
          go_wp2_with fail
          go_ret
          exact ⟨by rw [callE_c (by rw [← HA.out.1, ← HA.out.2.1, ← HA.out.2.2.1]; rfl), H4.out.2.2.2, ← H4.out.2.2.1, ← H4.out.2.1]; rfl, by first | exact below_drewN (HA.out.2.2.2.2.2.2 _ _) _ | exact below_drewN (below_drewN (HA.out.2.2.2.2.2.2 _ _) _) _⟩
        · go_quiet ((go_at_call 80; refine (H4.out.1 _).mono ?_; rintro e W1 ⟨rfl, rfl⟩; exact ⟨rfl, _, rfl⟩))
          go_wp2_with (go_at_call 80; refine (ptWithin_any _ _ _ _).mono ?_; rintro e w' ⟨rfl, rfl⟩)
          all_goals
            go_ret
            refine ⟨?_, by first | exact below_drewN (HA.out.2.2.2.2.2.2 _ _) _ | exact below_drewN (below_drewN (HA.out.2.2.2.2.2.2 _ _) _) _⟩
            rw [callE_c (by rw [← HA.out.1, ← HA.out.2.1, ← HA.out.2.2.1]; rfl), H4.out.2.2.2, ← H4.out.2.2.1, ← H4.out.2.1]
            first | (simp [*]; done) | (simp_all; done)
end Go.Proofs.Ythmldeningpjbaa
