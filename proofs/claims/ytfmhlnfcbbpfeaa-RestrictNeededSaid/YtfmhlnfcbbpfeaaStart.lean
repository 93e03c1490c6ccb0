/- restrict.start -/
import Derived.Test.YtfmhlnfcbbpfeaaCheck
import Derived.Test.YtfmhlnfcbbpfeaaPasses
namespace Go.Proofs.Ytfmhlnfcbbpfeaa
open Go Go.RowKit Sp

theorem bad_any (n : Int) (w : World) :
    Calls Try.prog 126 #[.int .i64 n] w fun e w' => e = .returned (.bool (!within n 0 2000)) ∧ w = w' := by
  go_enter Try.func126, Try.ntmps126
  go_wp2_with (go_at_call 76; refine (within_any _ _ _ _).mono ?_; rintro e w' ⟨rfl, rfl⟩)
  go_ret
  exact ⟨rfl, rfl⟩

def anyBad (l : List Int) : Bool := l.any fun n => !within n 0 2000
def badN (l : List Int) (k : Nat) : Bool := anyBad (l.take k)
def IdxPost (l : List Int) (w : World) (e : Ending) (w' : World) : Prop := ∃ r : Int, e = .returned (.int .i64 r) ∧ decide (0 ≤ r) = anyBad l ∧ w = w'

theorem badN_succ {l : List Int} {k : Nat} (hk : k < l.length) : badN l (k + 1) = (badN l k || !within (l.getD k 0) 0 2000) := by
  rw [badN, badN, List.take_succ_eq_append_getElem hk, List.getD_eq_getElem?_getD, List.getElem?_eq_getElem hk]
  simp only [anyBad, List.any_append, List.any_cons, List.any_nil, Bool.or_false, Option.getD_some]
theorem badN_true {l : List Int} {k : Nat} (h : badN l k = true) : anyBad l = true := by
  rw [badN, anyBad, List.any_eq_true] at h
  obtain ⟨x, hx, h⟩ := h
  rw [anyBad, List.any_eq_true]
  exact ⟨x, List.mem_of_mem_take hx, h⟩

set_option maxHeartbeats 1000000 in
theorem idx_any (A : Option Addr) (c : Nat) (l : List Int) (w : World) (hr : Rd w 1 A l.length (ints l)) (hm : l.length ≤ 9223372036854775807) :
    Calls Try.prog 137 #[.slice A l.length c, .func (.func 126) #[] #[]] w (IdxPost l w) := by
  go_enter Try.func137, Try.ntmps137
  go_wp2_with fail
  go_loopg [8] (l.length) (fun g i wr => ∃ k : Nat, g + k = l.length ∧ i = .int .i64 k ∧ badN l k = false ∧ w = wr)
  case atStart => exact ⟨0, rfl, rfl, by simp [badN, anyBad], rfl⟩
  case round =>
    obtain ⟨k, hk, rfl, hb, rfl⟩ := hrel
    have HB := Lib.hid hb
    clear hb
    by_cases hlt : k < l.length
    · obtain ⟨b, off, rfl, hbb, hc⟩ := hr.2 (by omega)
      have c0 := hc k _ (ints_get hlt)
      obtain ⟨x, hx⟩ : ∃ x, x = l.getD k 0 := ⟨_, rfl⟩
      rw [← hx] at c0
      have HX := Lib.hid hx
      clear hx hc hr
      cases hz : within x 0 2000
      · have H := bad_any x w
        rw [hz] at H
        have HH := Lib.hid H
        have hbt : anyBad l = true := badN_true (k := k + 1) (by rw [badN_succ hlt, ← HX.out, hz]; simp)
        have HT := Lib.hid hbt
        clear H hz hbt
        go_wp2_with (go_at_call 126; refine HH.out.mono ?_; rintro e w' ⟨rfl, rfl⟩)
        go_ret
        exact ⟨k, rfl, by rw [HT.out]; simp, rfl⟩
      · have H := bad_any x w
        rw [hz] at H
        have HH := Lib.hid H
        have hbt : badN l (k + 1) = false := by rw [badN_succ hlt, ← HX.out, hz, HB.out]; rfl
        have HT := Lib.hid hbt
        clear H hz hbt
        go_wp2_with (go_at_call 126; refine HH.out.mono ?_; rintro e w' ⟨rfl, rfl⟩)
        go_roundg (gk - 1)
        case measure => omega
        case rel => exact ⟨k + 1, by omega, by go_num, HT.out, rfl⟩
    · obtain rfl : k = l.length := by omega
      go_wp2_with fail
      go_ret
      exact ⟨-1, rfl, by have := HB.out; rw [badN, List.take_length] at this; rw [this]; simp, rfl⟩

theorem contains_any (A : Option Addr) (c : Nat) (l : List Int) (w : World) (hr : Rd w 1 A l.length (ints l)) (hm : l.length ≤ 9223372036854775807) :
    Calls Try.prog 109 #[.slice A l.length c, .func (.func 126) #[] #[]] w fun e w' => e = .returned (.bool (anyBad l)) ∧ w = w' := by
  go_enter Try.func109, Try.ntmps109
  go_wp2_with (go_at_call 137; refine (idx_any A c l w hr hm).mono ?_; rintro e w' ⟨r, rfl, hd, rfl⟩; have HD := Lib.hid hd; clear hd)
  go_ret
  exact ⟨by rw [← HD.out]; rfl, rfl⟩

/-- what start leaves -/
def startPost (w : World) (p : Pol) (days : List Int) (e : Ending) (w' : World) : Prop :=
  ∃ pp, e = .returned (.tuple #[.agg #[.pointer pp], .int .i64 (startS p days)]) ∧ Below w.heap.size w w' ∧ (startS p days = 0 → ∃ pb, pp = some ⟨pb, 0, none⟩ ∧ PolAt w' pb p) ∧ (startS p days ≠ 0 → pp = none)

set_option maxRecDepth 100000 in
set_option maxHeartbeats 1000000 in
theorem start_any (As : Option Addr) (cs : Nat) (p : Pol) (A : Option Addr) (c : Nat) (days : List Int) (w : World) (hp : PolV w As cs p) (hr : Rd w 1 A days.length (ints days)) (hm : days.length ≤ 9223372036854775807) :
    Calls Try.prog 74 #[.agg #[.slice As p.steps.length cs, .int .i64 p.hold, .int .i64 p.calm, .int .i64 p.notice, .int .i64 p.grace], .slice A days.length c] w (startPost w p days) := by
  obtain ⟨bx, hbx⟩ : ∃ bx, bx = w.heap.size := ⟨_, rfl⟩
  obtain ⟨ck, hck⟩ : ∃ ck, ck = checkS p := ⟨_, rfl⟩
  have HP := Lib.hid (And.intro hp (And.intro hr (And.intro hck hbx)))
  clear hp hr hck
  have b0 : ∀ o o', Below w.heap.size w ((w.alloc o).alloc o') := fun o o' => ((Below.refl _ _).alloc (Nat.le_refl _) _).alloc (by simp) _
  have hchk : Calls Try.prog 34 #[.agg #[.slice As p.steps.length cs, .int .i64 p.hold, .int .i64 p.calm, .int .i64 p.notice, .int .i64 p.grace]]
      ((w.alloc (.cells #[.slice As p.steps.length cs, .int .i64 p.hold, .int .i64 p.calm, .int .i64 p.notice, .int .i64 p.grace] 25)).alloc (.cells #[.pointer none] 143))
      fun e w1 => e = .returned (.int .i64 ck) ∧ w1.cell? ⟨w.heap.size + 1, 0, none⟩ = some (.pointer none) ∧ w1.frozen? ⟨w.heap.size + 1, 0, none⟩ = false ∧ w.heap.size + 1 < w1.heap.size ∧
        Below (w.heap.size + 2) ((w.alloc (.cells #[.slice As p.steps.length cs, .int .i64 p.hold, .int .i64 p.calm, .int .i64 p.notice, .int .i64 p.grace] 25)).alloc (.cells #[.pointer none] 143)) w1 := by
    have hc := check_any As cs p ((w.alloc (.cells #[.slice As p.steps.length cs, .int .i64 p.hold, .int .i64 p.calm, .int .i64 p.notice, .int .i64 p.grace] 25)).alloc (.cells #[.pointer none] 143)) ⟨HP.out.1.1, HP.out.1.2.1, HP.out.1.2.2.below (b0 _ _)⟩
    rw [← HP.out.2.2.1] at hc
    refine hc.mono ?_
    rintro e w1 ⟨rfl, hB⟩
    have hs := hB.size
    simp only [World.size_alloc] at hs
    refine ⟨rfl, ?_, ?_, by omega, by simpa using hB⟩
    · rw [hB.cell (p := ⟨w.heap.size + 1, 0, none⟩) (by simp)]
      have := World.cell?_alloc_new (w.alloc (.cells #[.slice As p.steps.length cs, .int .i64 p.hold, .int .i64 p.calm, .int .i64 p.notice, .int .i64 p.grace] 25)) #[.pointer none] 143 0
      rw [World.size_alloc] at this
      exact this
    · rw [hB.frozen (p := ⟨w.heap.size + 1, 0, none⟩) (by simp)]
      have := frozen_of_heap (heap_alloc_new (w.alloc (.cells #[.slice As p.steps.length cs, .int .i64 p.hold, .int .i64 p.calm, .int .i64 p.notice, .int .i64 p.grace] 25)) (.cells #[.pointer none] 143)) 0
      rw [World.size_alloc] at this
      exact this
  by_cases h1 : ck = 0
  · subst h1
    have hne : ((0 : Int) != 0) = false := rfl
    have hck0 : checkS p = 0 := HP.out.2.2.1.symm
    by_cases h4 : (400 : Int) < (days.length : Int)
    · have hst : startS p days = 2 := by unfold startS; rw [hck0, if_neg (by simp), if_pos h4]
      have HS := Lib.hid hst
      clear hst hck0
      go_enter Try.func74, Try.ntmps74
      go_wp2_with fail
      refine hchk.mono ?_
      rintro e w1 ⟨rfl, f1, f2, f3, hB⟩
      have HB := Lib.hid hB
      clear hB hchk
      go_wp2_with fail
      refine bodyPost_ret (v := .tuple #[.agg #[.pointer none], .int .i64 2]) (by simp [results, Try.results74, go_sem, f1]) rfl ?_
      refine ⟨none, by rw [HS.out], ?_, fun h => absurd (HS.out.symm.trans h) (by decide), fun _ => rfl⟩
      exact ((b0 _ _).trans (HB.out.mono (by omega))).setCell (by simp) _
    · have h4' : (days.length : Int) ≤ 400 := by omega
      obtain ⟨ab, hab⟩ : ∃ ab, ab = anyBad days := ⟨_, rfl⟩
      have HA := Lib.hid hab
      clear hab h4
      cases ab
      · have hst : startS p days = 0 := by unfold startS; rw [hck0, if_neg (by simp), if_neg (by omega), if_neg (by show ¬ anyBad days = true; rw [← HA.out]; simp)]
        have HS := Lib.hid hst
        clear hst hck0
        go_enter Try.func74, Try.ntmps74
        go_wp2_with fail
        refine hchk.mono ?_
        rintro e w1 ⟨rfl, f1, f2, f3, hB⟩
        have HB := Lib.hid hB
        clear hB hchk
        have hct : ∀ wx, Below w.heap.size w wx → Calls Try.prog 109 #[.slice A days.length c, .func (.func 126) #[] #[]] wx fun e w' => e = .returned (.bool false) ∧ wx = w' := fun wx hb => by
          have := contains_any A c days wx (HP.out.2.1.below hb) hm
          rwa [← HA.out] at this
        go_wp2_with (go_at_call 109; refine (hct _ ((b0 _ _).trans (HB.out.mono (by omega)))).mono ?_; clear hct; rintro e w' ⟨rfl, rfl⟩)
        refine bodyPost_ret (v := .tuple #[.agg #[.pointer (some ⟨w.heap.size, 0, none⟩)], .int .i64 0]) (by simp [results, Try.results74, go_sem, f1]) rfl ?_
        refine ⟨some ⟨w.heap.size, 0, none⟩, by rw [HS.out], ?_, fun _ => ⟨_, rfl, ?_⟩, fun h => absurd HS.out h⟩
        · exact ((b0 _ _).trans (HB.out.mono (by omega))).setCell (by simp) _
        · refine ⟨As, cs, ?_, HP.out.1.1, HP.out.1.2.1, HP.out.1.2.2.below (((b0 _ _).trans (HB.out.mono (by omega))).setCell (by simp) _)⟩
          rw [Below.heap_setCell _ _ _ _ (by simp), HB.out.block _ (by omega), Below.heap_alloc _ _ _ (by simp)]
          exact heap_alloc_new w _
      · have hst : startS p days = 6 := by unfold startS; rw [hck0, if_neg (by simp), if_neg (by omega), if_pos (by show anyBad days = true; rw [← HA.out])]
        have HS := Lib.hid hst
        clear hst hck0
        go_enter Try.func74, Try.ntmps74
        go_wp2_with fail
        refine hchk.mono ?_
        rintro e w1 ⟨rfl, f1, f2, f3, hB⟩
        have HB := Lib.hid hB
        clear hB hchk
        have hct : ∀ wx, Below w.heap.size w wx → Calls Try.prog 109 #[.slice A days.length c, .func (.func 126) #[] #[]] wx fun e w' => e = .returned (.bool true) ∧ wx = w' := fun wx hb => by
          have := contains_any A c days wx (HP.out.2.1.below hb) hm
          rwa [← HA.out] at this
        go_wp2_with (go_at_call 109; refine (hct _ ((b0 _ _).trans (HB.out.mono (by omega)))).mono ?_; clear hct; rintro e w' ⟨rfl, rfl⟩)
        refine bodyPost_ret (v := .tuple #[.agg #[.pointer none], .int .i64 6]) (by simp [results, Try.results74, go_sem, f1]) rfl ?_
        refine ⟨none, by rw [HS.out], ?_, fun h => absurd (HS.out.symm.trans h) (by decide), fun _ => rfl⟩
        exact ((b0 _ _).trans (HB.out.mono (by omega))).setCell (by simp) _
  · have hne : (ck != 0) = true := by simp [h1]
    have hst : startS p days = ck := by unfold startS; rw [← HP.out.2.2.1, if_pos h1]
    have HS := Lib.hid (And.intro hst h1)
    clear h1 hst
    go_enter Try.func74, Try.ntmps74
    go_wp2_with fail
    refine hchk.mono ?_
    rintro e w1 ⟨rfl, f1, f2, f3, hB⟩
    have HB := Lib.hid hB
    clear hB hchk
    go_wp2_with fail
    refine bodyPost_ret (v := .tuple #[.agg #[.pointer none], .int .i64 ck]) (by simp [results, Try.results74, go_sem, f1]) rfl ?_
    refine ⟨none, by rw [HS.out.1], ?_, fun h => absurd (HS.out.1.symm.trans h) HS.out.2, fun _ => rfl⟩
    exact ((b0 _ _).trans (HB.out.mono (by omega))).setCell (by simp) _
end Go.Proofs.Ytfmhlnfcbbpfeaa
