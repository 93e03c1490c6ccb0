/- restrict.start -/
import Derived.Test.YtalcinepeofmcaaDoorRSp1
import Derived.Test.YtalcinepeofmcaaDoorRSp3
import Derived.Test.YtalcinepeofmcaaDoorRSp0
set_option linter.unusedVariables false
set_option linter.unusedSimpArgs false
namespace Go.Proofs.YtalcinepeofmcaaDoor
open Go Go.RowKit Sp

theorem bad_any (n : Int) (w : World) :
    Calls Tryd.prog 79 #[.int .i64 n] w fun e w' => e = .returned (.bool (!within n 0 2000)) ∧ w = w' := by
  go_enter Tryd.func79, Tryd.ntmps79
  go_wp2_with (go_at_call 22; refine (within_any _ _ _ _).mono ?_; rintro e w' ⟨rfl, rfl⟩)
  go_ret
  exact ⟨rfl, rfl⟩

def anyBad (l : List Int) : Bool := l.any fun n => !within n 0 2000
def badN (l : List Int) (k : Nat) : Bool := anyBad (l.take k)
def IdxPost (l : List Int) (w : World) (e : Ending) (w' : World) : Prop := ∃ r : Int, e = .returned (.int .i64 r) ∧ decide (0 ≤ r) = anyBad l ∧ w = w'

theorem badN_succ {l : List Int} {k : Nat} (hk : k < l.length) : badN l (k + 1) = (badN l k || !within (l.getD k 0) 0 2000) := by
  rw [badN, badN, List.take_succ_eq_append_getElem hk, List.getD_eq_getElem?_getD, List.getElem?_eq_getElem hk]
  simp only [anyBad, List.any_append, List.any_cons, List.any_nil, Bool.or_false, Option.getD_some]
theorem badN_true {l : List Int} {k : Nat} (h : badN l k = true) : anyBad l = true := by
  rw [badN, anyBad, List.any_eq_true] at h
  obtain ⟨x, hx, h⟩ := h
  rw [anyBad, List.any_eq_true]
  exact ⟨x, List.mem_of_mem_take hx, h⟩

set_option maxHeartbeats 1000000 in
theorem idx_any (A : Option Addr) (c : Nat) (l : List Int) (w : World) (hr : Rd w 1 A l.length (ints l)) (hm : l.length ≤ 9223372036854775807) :
    Calls Tryd.prog 51 #[.slice A l.length c, .func (.func 79) #[] #[]] w (IdxPost l w) := by
  go_enter Tryd.func51, Tryd.ntmps51
  go_wp2_with fail
  go_loopg [8] (l.length) (fun g i wr => ∃ k : Nat, g + k = l.length ∧ i = .int .i64 k ∧ badN l k = false ∧ w = wr)
  case atStart => exact ⟨0, rfl, rfl, by simp [badN, anyBad], rfl⟩
  case round =>
    obtain ⟨k, hk, rfl, hb, rfl⟩ := hrel
    have HB := Lib.hid hb
    clear hb
    by_cases hlt : k < l.length
    · obtain ⟨b, off, rfl, hbb, hc⟩ := hr.2 (by omega)
      have c0 := hc k _ (ints_get hlt)
      obtain ⟨x, hx⟩ : ∃ x, x = l.getD k 0 := ⟨_, rfl⟩
      rw [← hx] at c0
      have HX := Lib.hid hx
      clear hx hc hr
      cases hz : within x 0 2000
      · have H := bad_any x w
        rw [hz] at H
        have HH := Lib.hid H
        have hbt : anyBad l = true := badN_true (k := k + 1) (by rw [badN_succ hlt, ← HX.out, hz]; simp)
        have HT := Lib.hid hbt
        clear H hz hbt
        go_wp2_with (go_at_call 79; refine HH.out.mono ?_; rintro e w' ⟨rfl, rfl⟩)
        go_ret
        exact ⟨k, rfl, by rw [HT.out]; simp, rfl⟩
      · have H := bad_any x w
        rw [hz] at H
        have HH := Lib.hid H
        have hbt : badN l (k + 1) = false := by rw [badN_succ hlt, ← HX.out, hz, HB.out]; rfl
        have HT := Lib.hid hbt
        clear H hz hbt
        go_wp2_with (go_at_call 79; refine HH.out.mono ?_; rintro e w' ⟨rfl, rfl⟩)
        go_roundg (gk - 1)
        case measure => omega
        case rel => exact ⟨k + 1, by omega, by go_num, HT.out, rfl⟩
    · obtain rfl : k = l.length := by omega
      go_wp2_with fail
      go_ret
      exact ⟨-1, rfl, by have := HB.out; rw [badN, List.take_length] at this; rw [this]; simp, rfl⟩

theorem contains_any (A : Option Addr) (c : Nat) (l : List Int) (w : World) (hr : Rd w 1 A l.length (ints l)) (hm : l.length ≤ 9223372036854775807) :
    Calls Tryd.prog 20 #[.slice A l.length c, .func (.func 79) #[] #[]] w fun e w' => e = .returned (.bool (anyBad l)) ∧ w = w' := by
  go_enter Tryd.func20, Tryd.ntmps20
  go_wp2_with (go_at_call 51; refine (idx_any A c l w hr hm).mono ?_; rintro e w' ⟨r, rfl, hd, rfl⟩; have HD := Lib.hid hd; clear hd)
  go_ret
  exact ⟨by rw [← HD.out]; rfl, rfl⟩

/-- what start leaves -/
def startPost (w : World) (p : Pol) (days : List Int) (e : Ending) (w' : World) : Prop :=
  ∃ pp, e = .returned (.tuple #[.agg #[.pointer pp], .int .i64 (startS p days)]) ∧ Below w.heap.size w w' ∧ (startS p days = 0 → ∃ pb, pp = some ⟨pb, 0, none⟩ ∧ PolAt w' pb p) ∧ (startS p days ≠ 0 → pp = none)

set_option maxRecDepth 100000 in
set_option maxHeartbeats 1000000 in
theorem start8_any (As : Option Addr) (cs : Nat) (p : Pol) (A : Option Addr) (c : Nat) (days : List Int) (w : World) (hp : PolV w As cs p) (hr : Rd w 1 A days.length (ints days)) (hm : days.length ≤ 9223372036854775807) :
    Calls Tryd.prog 56 #[.agg #[.slice As p.steps.length cs, .int .i64 p.hold, .int .i64 p.calm, .int .i64 p.notice, .int .i64 p.grace], .slice A days.length c] w (startPost w p days) := by
  obtain ⟨bx, hbx⟩ : ∃ bx, bx = w.heap.size := ⟨_, rfl⟩
  obtain ⟨ck, hck⟩ : ∃ ck, ck = checkS p := ⟨_, rfl⟩
  have HP := Lib.hid (And.intro hp (And.intro hr (And.intro hck hbx)))
  clear hp hr hck
  have b0 : ∀ o o', Below w.heap.size w ((w.alloc o).alloc o') := fun o o' => ((Below.refl _ _).alloc (Nat.le_refl _) _).alloc (by simp) _
  have hchk : Calls Tryd.prog 78 #[.agg #[.slice As p.steps.length cs, .int .i64 p.hold, .int .i64 p.calm, .int .i64 p.notice, .int .i64 p.grace]]
      ((w.alloc (.cells #[.slice As p.steps.length cs, .int .i64 p.hold, .int .i64 p.calm, .int .i64 p.notice, .int .i64 p.grace] 51)).alloc (.cells #[.pointer none] 101))
      fun e w1 => e = .returned (.int .i64 ck) ∧ w1.cell? ⟨w.heap.size + 1, 0, none⟩ = some (.pointer none) ∧ w1.frozen? ⟨w.heap.size + 1, 0, none⟩ = false ∧ w.heap.size + 1 < w1.heap.size ∧
        Below (w.heap.size + 2) ((w.alloc (.cells #[.slice As p.steps.length cs, .int .i64 p.hold, .int .i64 p.calm, .int .i64 p.notice, .int .i64 p.grace] 51)).alloc (.cells #[.pointer none] 101)) w1 := by
    have hc := check_any As cs p ((w.alloc (.cells #[.slice As p.steps.length cs, .int .i64 p.hold, .int .i64 p.calm, .int .i64 p.notice, .int .i64 p.grace] 51)).alloc (.cells #[.pointer none] 101)) ⟨HP.out.1.1, HP.out.1.2.1, HP.out.1.2.2.below (b0 _ _)⟩
    rw [← HP.out.2.2.1] at hc
    refine hc.mono ?_
    rintro e w1 ⟨rfl, hB⟩
    have hs := hB.size
    simp only [World.size_alloc] at hs
    refine ⟨rfl, ?_, ?_, by omega, by simpa using hB⟩
    · rw [hB.cell (p := ⟨w.heap.size + 1, 0, none⟩) (by simp)]
      have := World.cell?_alloc_new (w.alloc (.cells #[.slice As p.steps.length cs, .int .i64 p.hold, .int .i64 p.calm, .int .i64 p.notice, .int .i64 p.grace] 51)) #[.pointer none] 101 0
      rw [World.size_alloc] at this
      exact this
    · rw [hB.frozen (p := ⟨w.heap.size + 1, 0, none⟩) (by simp)]
      have := frozen_of_heap (heap_alloc_new (w.alloc (.cells #[.slice As p.steps.length cs, .int .i64 p.hold, .int .i64 p.calm, .int .i64 p.notice, .int .i64 p.grace] 51)) (.cells #[.pointer none] 101)) 0
      rw [World.size_alloc] at this
      exact this
  by_cases h1 : ck = 0
  · subst h1
    have hne : ((0 : Int) != 0) = false := rfl
    have hck0 : checkS p = 0 := HP.out.2.2.1.symm
    by_cases h4 : (400 : Int) < (days.length : Int)
    · have hst : startS p days = 2 := by unfold startS; rw [hck0, if_neg (by simp), if_pos h4]
      have HS := Lib.hid hst
      clear hst hck0
      go_enter Tryd.func56, Tryd.ntmps56
      go_wp2_with fail
      refine hchk.mono ?_
      rintro e w1 ⟨rfl, f1, f2, f3, hB⟩
      have HB := Lib.hid hB
      clear hB hchk
      go_wp2_with fail
      refine bodyPost_ret (v := .tuple #[.agg #[.pointer none], .int .i64 2]) (by simp [results, Tryd.results56, go_sem, f1]) rfl ?_
      refine ⟨none, by rw [HS.out], ?_, fun h => absurd (HS.out.symm.trans h) (by decide), fun _ => rfl⟩
      exact ((b0 _ _).trans (HB.out.mono (by omega))).setCell (by simp) _
    · have h4' : (days.length : Int) ≤ 400 := by omega
      obtain ⟨ab, hab⟩ : ∃ ab, ab = anyBad days := ⟨_, rfl⟩
      have HA := Lib.hid hab
      clear hab h4
      cases ab
      · have hst : startS p days = 0 := by unfold startS; rw [hck0, if_neg (by simp), if_neg (by omega), if_neg (by show ¬ anyBad days = true; rw [← HA.out]; simp)]
        have HS := Lib.hid hst
        clear hst hck0
        go_enter Tryd.func56, Tryd.ntmps56
        go_wp2_with fail
        refine hchk.mono ?_
        rintro e w1 ⟨rfl, f1, f2, f3, hB⟩
        have HB := Lib.hid hB
        clear hB hchk
        have hct : ∀ wx, Below w.heap.size w wx → Calls Tryd.prog 20 #[.slice A days.length c, .func (.func 79) #[] #[]] wx fun e w' => e = .returned (.bool false) ∧ wx = w' := fun wx hb => by
          have := contains_any A c days wx (HP.out.2.1.below hb) hm
          rwa [← HA.out] at this
        go_wp2_with (go_at_call 20; refine (hct _ ((b0 _ _).trans (HB.out.mono (by omega)))).mono ?_; clear hct; rintro e w' ⟨rfl, rfl⟩)
        refine bodyPost_ret (v := .tuple #[.agg #[.pointer (some ⟨w.heap.size, 0, none⟩)], .int .i64 0]) (by simp [results, Tryd.results56, go_sem, f1]) rfl ?_
        refine ⟨some ⟨w.heap.size, 0, none⟩, by rw [HS.out], ?_, fun _ => ⟨_, rfl, ?_⟩, fun h => absurd HS.out h⟩
        · exact ((b0 _ _).trans (HB.out.mono (by omega))).setCell (by simp) _
        · refine ⟨As, cs, ?_, HP.out.1.1, HP.out.1.2.1, HP.out.1.2.2.below (((b0 _ _).trans (HB.out.mono (by omega))).setCell (by simp) _)⟩
          rw [Below.heap_setCell _ _ _ _ (by simp), HB.out.block _ (by omega), Below.heap_alloc _ _ _ (by simp)]
          exact heap_alloc_new w _
      · have hst : startS p days = 6 := by unfold startS; rw [hck0, if_neg (by simp), if_neg (by omega), if_pos (by show anyBad days = true; rw [← HA.out])]
        have HS := Lib.hid hst
        clear hst hck0
        go_enter Tryd.func56, Tryd.ntmps56
        go_wp2_with fail
        refine hchk.mono ?_
        rintro e w1 ⟨rfl, f1, f2, f3, hB⟩
        have HB := Lib.hid hB
        clear hB hchk
        have hct : ∀ wx, Below w.heap.size w wx → Calls Tryd.prog 20 #[.slice A days.length c, .func (.func 79) #[] #[]] wx fun e w' => e = .returned (.bool true) ∧ wx = w' := fun wx hb => by
          have := contains_any A c days wx (HP.out.2.1.below hb) hm
          rwa [← HA.out] at this
        go_wp2_with (go_at_call 20; refine (hct _ ((b0 _ _).trans (HB.out.mono (by omega)))).mono ?_; clear hct; rintro e w' ⟨rfl, rfl⟩)
        refine bodyPost_ret (v := .tuple #[.agg #[.pointer none], .int .i64 6]) (by simp [results, Tryd.results56, go_sem, f1]) rfl ?_
        refine ⟨none, by rw [HS.out], ?_, fun h => absurd (HS.out.symm.trans h) (by decide), fun _ => rfl⟩
        exact ((b0 _ _).trans (HB.out.mono (by omega))).setCell (by simp) _
  · have hne : (ck != 0) = true := by simp [h1]
    have hst : startS p days = ck := by unfold startS; rw [← HP.out.2.2.1, if_pos h1]
    have HS := Lib.hid (And.intro hst h1)
    clear h1 hst
    go_enter Tryd.func56, Tryd.ntmps56
    go_wp2_with fail
    refine hchk.mono ?_
    rintro e w1 ⟨rfl, f1, f2, f3, hB⟩
    have HB := Lib.hid hB
    clear hB hchk
    go_wp2_with fail
    refine bodyPost_ret (v := .tuple #[.agg #[.pointer none], .int .i64 ck]) (by simp [results, Tryd.results56, go_sem, f1]) rfl ?_
    refine ⟨none, by rw [HS.out.1], ?_, fun h => absurd (HS.out.1.symm.trans h) HS.out.2, fun _ => rfl⟩
    exact ((b0 _ _).trans (HB.out.mono (by omega))).setCell (by simp) _
end Go.Proofs.YtalcinepeofmcaaDoor
/- capacity of an own slice -/
namespace Go.Proofs.YtalcinepeofmcaaDoor
open Go Go.RowKit Sp

theorem OwnA.cap {w : World} {e : TypeId} {A : Option Addr} {n c : Nat} {xs : List Value} {fp : List Nat} (h : OwnA w e A n c xs fp) : c ≤ 9223372036854775807 := by
  rcases h.2 with ⟨_, _, rfl, _⟩ | ⟨g, off, cur, _, _, _, _, h, _⟩
  · omega
  · exact h

end Go.Proofs.YtalcinepeofmcaaDoor
/- restrict.asked, restrict.May, slices.Index of a bool -/
namespace Go.Proofs.YtalcinepeofmcaaDoor
open Go Go.RowKit Sp

/-- the error of asked -/
def askS (p : Pol) (days : List Int) (v : Ves) : Int := if startS p days ≠ 0 then startS p days else if vright v then 0 else 1
theorem ask_start {p : Pol} {days : List Int} {v : Ves} (h : startS p days ≠ 0) : askS p days v = startS p days := by unfold askS; rw [if_pos h]
theorem ask_right {p : Pol} {days : List Int} {v : Ves} (h : startS p days = 0) : askS p days v = if vright v then 0 else 1 := by unfold askS; rw [if_neg (fun f => f h)]
theorem vright_cls {v : Ves} (h : vright v = true) : -1000000000 ≤ v.cls ∧ v.cls ≤ 1000000000 := by simp [vright, within] at h; omega

def BoolsAt (w : World) (A : Option Addr) (c : Nat) (l : List Bool) : Prop := Rd w 1 A l.length (bools l) ∧ l.length ≤ c ∧ c ≤ 9223372036854775807
def askedPost (w : World) (p : Pol) (days : List Int) (v : Ves) (e : Ending) (w' : World) : Prop :=
  ∃ A c, e = .returned (.tuple #[.slice A (if askS p days v = 0 then days.length else 0) c, .int .i64 (askS p days v)]) ∧ (askS p days v = 0 → BoolsAt w' A c (passesS p days v)) ∧ Below w.heap.size w w'

set_option maxRecDepth 100000 in
set_option maxHeartbeats 1000000 in
theorem asked8_any (As : Option Addr) (cs : Nat) (p : Pol) (A : Option Addr) (c : Nat) (days : List Int) (v : Ves) (w : World) (hp : PolV w As cs p) (hr : Rd w 1 A days.length (ints days)) (hm : days.length ≤ 9223372036854775807) :
    Calls Tryd.prog 63 #[.agg #[.slice As p.steps.length cs, .int .i64 p.hold, .int .i64 p.calm, .int .i64 p.notice, .int .i64 p.grace], .slice A days.length c, .agg #[.int .i64 v.cls, .int .i64 v.ton, .bool v.esc]] w (askedPost w p days v) := by
  obtain ⟨er, her⟩ : ∃ er, er = startS p days := ⟨_, rfl⟩
  have b0 : ∀ o o', Below w.heap.size w ((w.alloc o).alloc o') := fun o o' => ((Below.refl _ _).alloc (Nat.le_refl _) _).alloc (by simp) _
  have hst : Calls Tryd.prog 56 #[.agg #[.slice As p.steps.length cs, .int .i64 p.hold, .int .i64 p.calm, .int .i64 p.notice, .int .i64 p.grace], .slice A days.length c]
      ((w.alloc (.cells #[.slice As p.steps.length cs, .int .i64 p.hold, .int .i64 p.calm, .int .i64 p.notice, .int .i64 p.grace] 51)).alloc (.cells #[.int .i64 v.cls, .int .i64 v.ton, .bool v.esc] 53))
      fun e w1 => ∃ pp, e = .returned (.tuple #[.agg #[.pointer pp], .int .i64 er]) ∧ (Below w.heap.size w w1 ∧ w.heap.size + 2 ≤ w1.heap.size) ∧ (er = 0 → ∃ pb, pp = some ⟨pb, 0, none⟩ ∧ PolAt w1 pb p) ∧
        w1.cell? ⟨w.heap.size + 1, 0, none⟩ = some (.int .i64 v.cls) ∧ w1.cell? ⟨w.heap.size + 1, 1, none⟩ = some (.int .i64 v.ton) ∧ w1.cell? ⟨w.heap.size + 1, 2, none⟩ = some (.bool v.esc) := by
    refine (start8_any As cs p A c days _ ⟨hp.1, hp.2.1, hp.2.2.below (b0 _ _)⟩ (hr.below (b0 _ _)) hm).mono ?_
    rintro e w1 ⟨pp, rfl, hB, h0, _⟩
    have fv : ∀ j u, (#[Value.int .i64 v.cls, .int .i64 v.ton, .bool v.esc] : Array Value)[j]? = some u → w1.cell? ⟨w.heap.size + 1, j, none⟩ = some u := by
      intro j u hu
      rw [hB.cell (p := ⟨w.heap.size + 1, j, none⟩) (by simp)]
      rw [← hu]
      have := World.cell?_alloc_new (w.alloc (.cells #[.slice As p.steps.length cs, .int .i64 p.hold, .int .i64 p.calm, .int .i64 p.notice, .int .i64 p.grace] 51)) #[Value.int .i64 v.cls, .int .i64 v.ton, .bool v.esc] 53 j
      rw [World.size_alloc] at this
      exact this
    exact ⟨pp, by rw [her], ⟨(b0 _ _).trans (hB.mono (by simp; omega)), by have := hB.size; simp at this; omega⟩, fun h => h0 (her.symm.trans h), fv 0 _ rfl, fv 1 _ rfl, fv 2 _ rfl⟩
  have HP := Lib.hid (And.intro her (And.intro hr hst))
  clear her hst b0
  by_cases h0 : er = 0
  · subst h0
    have hs0 : startS p days = 0 := HP.out.1.symm
    obtain ⟨hck, hl4, _⟩ := start_ok hs0
    obtain ⟨k1, k2, k3, k4, k5, k6, k7, k8, k9, k10⟩ := check_ok hck
    have hne : ((0 : Int) != 0) = false := rfl
    have HK := Lib.hid (And.intro hs0 (And.intro k1 (And.intro k3 (And.intro k4 (And.intro k5 (And.intro k6 (And.intro k7 k8)))))))
    clear hs0 hck k1 k2 k3 k4 k5 k6 k7 k8 k9 k10 hr
    obtain ⟨vr, hvr⟩ : ∃ vr, vr = vright v := ⟨_, rfl⟩
    have hrt : ∀ wx, Calls Tryd.prog 40 #[.agg #[.int .i64 v.cls, .int .i64 v.ton, .bool v.esc]] wx fun e w' => e = .returned (.bool vr) ∧ Below wx.heap.size wx w' := fun wx => by rw [hvr]; exact right_any v wx
    have HV := Lib.hid (And.intro hvr hrt)
    clear hvr hrt
    cases vr
    · go_enter Tryd.func63, Tryd.ntmps63
      go_wp2_with fail
      refine HP.out.2.2.mono ?_
      rintro e w1 ⟨pp, rfl, hB, h0, f0, f1, f2⟩
      obtain ⟨pb, rfl, hpol⟩ := h0 trivial
      have HB := Lib.hid (And.intro hB hpol)
      have hsz : w.heap.size + 1 < w1.heap.size := hB.2
      clear hB hpol h0
      go_wp2_with (go_at_call 40; refine (HV.out.2 _).mono ?_; rintro e w2 ⟨rfl, b2⟩)
      go_ret2
      refine ⟨none, 0, ?_, ?_, ?_⟩
      · rw [ask_right HK.out.1, ← HV.out.1]; rfl
      · rw [ask_right HK.out.1, ← HV.out.1]; intro h; cases h
      · have := HB.out.1.2
        exact (HB.out.1.1.alloc (by omega) _).trans (b2.mono (by simp; omega))
    · go_enter Tryd.func63, Tryd.ntmps63
      go_wp2_with fail
      refine HP.out.2.2.mono ?_
      rintro e w1 ⟨pp, rfl, hB, h0, f0, f1, f2⟩
      obtain ⟨pb, rfl, hpol⟩ := h0 trivial
      have HB := Lib.hid (And.intro hB hpol)
      have hsz : w.heap.size + 1 < w1.heap.size := hB.2
      clear hB hpol h0
      have hB2 : Below w.heap.size w w1 ∧ w.heap.size ≤ w1.heap.size := ⟨HB.out.1.1, by omega⟩
      go_wp2_with (go_at_call 40; refine (HV.out.2 _).mono ?_; rintro e w2 ⟨rfl, b2⟩
                   have bb : Below w1.heap.size w1 w2 := ((Below.refl _ _).alloc (Nat.le_refl _) _).trans (b2.mono (by simp))
                   have f0' := (bb.cell (p := ⟨w.heap.size + 1, 0, none⟩) hsz).trans f0
                   have f1' := (bb.cell (p := ⟨w.heap.size + 1, 1, none⟩) hsz).trans f1
                   have f2' := (bb.cell (p := ⟨w.heap.size + 1, 2, none⟩) hsz).trans f2
                   have f3' : w2.cell? ⟨w1.heap.size, 0, none⟩ = some (.pointer (some ⟨pb, 0, none⟩)) := by
                     rw [b2.cell (p := ⟨w1.heap.size, 0, none⟩) (by simp)]
                     exact cell_new_one _ _ _
                   have BB := Lib.hid bb
                   clear bb b2 f0 f1 f2)
      have bt : Below w.heap.size w w2 := hB2.1.trans (BB.out.mono hB2.2)
      refine (passes_any pb p A c days v w2 (HB.out.2.below BB.out) ⟨HK.out.2.2.1, by have := HK.out.2.2.2.1; omega⟩ ⟨HK.out.2.2.2.2.1, by have := HK.out.2.2.2.2.2.1; omega⟩ ⟨HK.out.2.2.2.2.2.2.1, by have := HK.out.2.2.2.2.2.2.2; omega⟩ HK.out.2.1 (vright_cls HV.out.1.symm) (HP.out.2.1.below bt) (by omega)).mono ?_
      rintro e w3 ⟨A3, c3, q3, rfl, o3, n3, b3⟩
      go_wp2_with fail
      go_ret2
      refine ⟨A3, c3, ?_, ?_, ?_⟩
      · rw [ask_right HK.out.1, ← HV.out.1]; rfl
      · intro _; exact ⟨by rw [passesS_length]; exact o3.rd, by rw [passesS_length]; exact o3.ge, o3.cap⟩
      · exact bt.trans (b3.mono bt.size)
  · have hne : (er != 0) = true := by simp [h0]
    have hs0 : startS p days ≠ 0 := fun h => h0 (HP.out.1.trans h)
    have HK := Lib.hid (And.intro hs0 h0)
    clear hs0 h0 hr
    go_enter Tryd.func63, Tryd.ntmps63
    go_wp2_with fail
    refine HP.out.2.2.mono ?_
    rintro e w1 ⟨pp, rfl, hB, _⟩
    have HB := Lib.hid hB
    clear hB
    go_wp2_with fail
    go_ret2
    refine ⟨none, 0, ?_, ?_, HB.out.1.alloc HB.out.1.size _⟩
    · rw [ask_start HK.out.1, if_neg HK.out.1, ← HP.out.1]; rfl
    · rw [ask_start HK.out.1]; intro h; exact absurd h HK.out.1

/-- what May leaves -/
def mayE (p : Pol) (days : List Int) (v : Ves) (day : Int) : Int := if askS p days v ≠ 0 then askS p days v else if within day 0 ((days.length : Int) - 1) then 0 else 6
def mayB (p : Pol) (days : List Int) (v : Ves) (day : Int) : Bool := if mayE p days v day = 0 then (passesS p days v).getD day.toNat false else false
theorem may_ask {p : Pol} {days : List Int} {v : Ves} {day : Int} (h : askS p days v ≠ 0) : mayE p days v day = askS p days v := by unfold mayE; rw [if_pos h]
theorem may_day {p : Pol} {days : List Int} {v : Ves} {day : Int} (h : askS p days v = 0) : mayE p days v day = if within day 0 ((days.length : Int) - 1) then 0 else 6 := by unfold mayE; rw [if_neg (fun f => f h)]


/-- where a Bool comes first -/
def idxL (t : Bool) : List Bool → Int
  | [] => -1
  | x :: l => if t = x then 0 else if idxL t l = -1 then -1 else idxL t l + 1
theorem idxL_append {t : Bool} {l m : List Bool} (h : ∀ x ∈ l, t ≠ x) : idxL t (l ++ t :: m) = l.length := by
  induction l with
  | nil => simp [idxL]
  | cons x l ih =>
    rw [List.cons_append, idxL, if_neg (h x (by simp)), ih (fun y hy => h y (by simp [hy]))]
    rw [if_neg (by omega)]; simp
theorem idxL_none {t : Bool} {l : List Bool} (h : ∀ x ∈ l, t ≠ x) : idxL t l = -1 := by
  induction l with
  | nil => rfl
  | cons x l ih => rw [idxL, if_neg (h x (by simp)), ih (fun y hy => h y (by simp [hy])), if_pos rfl]

set_option maxHeartbeats 1000000 in
theorem indexB_any (A : Option Addr) (c : Nat) (l : List Bool) (t : Bool) (w : World) (hr : Rd w 1 A l.length (bools l)) (hm : l.length ≤ 9223372036854775807) :
    Calls Tryd.prog 65 #[.slice A l.length c, .bool t] w fun e w' => e = .returned (.int .i64 (idxL t l)) ∧ w = w' := by
  go_enter Tryd.func65, Tryd.ntmps65
  go_wp2_with fail
  go_loopg [8] (l.length) (fun g i wr => ∃ k : Nat, g + k = l.length ∧ i = .int .i64 k ∧ (∀ x ∈ l.take k, t ≠ x) ∧ w = wr)
  case atStart => exact ⟨0, rfl, rfl, by simp, rfl⟩
  case round =>
    obtain ⟨k, hk, rfl, hb, rfl⟩ := hrel
    have HB := Lib.hid hb
    clear hb
    by_cases hlt : k < l.length
    · obtain ⟨b, off, rfl, hbb, hc⟩ := hr.2 (by omega)
      have c0 := hc k _ (bools_get hlt)
      have hx : l.getD k false = l[k] := by simp [hlt]
      rw [hx] at c0
      have HX := Lib.hid hx
      clear hx hc hr
      cases hz : (t == l[k])
      · go_wp2_with fail
        go_roundg (gk - 1)
        case measure => omega
        case rel =>
          refine ⟨k + 1, by omega, by go_num, ?_, rfl⟩
          rw [List.take_succ_eq_append_getElem hlt]
          intro x hx
          rcases List.mem_append.1 hx with h1 | h1
          · exact HB.out x h1
          · rw [List.mem_singleton.1 h1]; simpa using hz
      · go_wp2_with fail
        go_ret
        refine ⟨?_, rfl⟩
        have e1 : l = l.take k ++ t :: l.drop (k + 1) := by
          have e2 : t = l[k] := by simpa using hz
          conv => lhs; rw [← List.take_append_drop k l, List.drop_eq_getElem_cons hlt]
          rw [e2]
        have e3 : idxL t l = k := by rw [e1, idxL_append HB.out, List.length_take, Nat.min_eq_left (by omega)]
        rw [e3]; rfl
    · obtain rfl : k = l.length := by omega
      go_wp2_with fail
      go_ret
      exact ⟨by rw [idxL_none (by have := HB.out; rwa [List.take_length] at this)]; rfl, rfl⟩
end Go.Proofs.YtalcinepeofmcaaDoor
/- words on memory and on the first index of a Bool -/
namespace Go.Proofs.YtalcinepeofmcaaDoor
open Go Go.RowKit Sp

theorem below_drewN {B : Nat} {w w' : World} (h : Below B w w') (n : Nat) : Below B w (w'.drewN n) := ⟨h.os, h.tape, h.output, h.size, h.block⟩
theorem idxL_range (t : Bool) (l : List Bool) : -1 ≤ idxL t l ∧ idxL t l ≤ l.length := by
  induction l with
  | nil => exact ⟨Int.le_refl _, by simp [idxL]⟩
  | cons x l ih =>
    rw [idxL]
    simp only [List.length_cons]
    split
    · omega
    · split <;> omega
theorem rd_sub {w : World} {b off n a m : Nat} {xs : List Value} (h : Rd w 1 (some ⟨b, off, none⟩) n xs) (hm : a + m ≤ n) (hb : b < w.heap.size) (hc : ∀ j u, xs[j]? = some u → w.cell? ⟨b, off + j, none⟩ = some u) : Rd w 1 (some ⟨b, off + a, none⟩) m ((xs.drop a).take m) := by
  refine ⟨by rw [List.length_take, List.length_drop, h.1]; omega, fun h0 => ⟨b, off + a, rfl, hb, fun j u hu => ?_⟩⟩
  rw [List.getElem?_take] at hu
  split at hu
  · rw [List.getElem?_drop] at hu
    have := hc _ _ hu
    rwa [show off + (a + j) = off + a + j from by omega] at this
  · cases hu
theorem span_cells {w : World} {b : Nat} {x y : Value} {t : TypeId} (hh : w.heap[b]? = some (.cells #[x, y] t)) (u v : Value) : ((w.setCell ⟨b, 0, none⟩ u).setCell ⟨b, 1, none⟩ v).heap[b]? = some (.cells #[u, v] t) := heap_set (heap_set hh 0 u) 1 v
theorem PolV.below {w w' : World} {A : Option Addr} {c : Nat} {p : Pol} (h : PolV w A c p) (hb : Below w.heap.size w w') : PolV w' A c p := ⟨h.1, h.2.1, h.2.2.below hb⟩

end Go.Proofs.YtalcinepeofmcaaDoor
/- slices of the call's own whose elements have several cells; append of one element. No program is named here. -/
namespace Go.Proofs.YtalcinepeofmcaaDoor
open Go Go.RowKit

/-- A slice value (A, n, c) of elements of size cells, nil or in a block of its own. -/
def OwnS (w : World) (e : TypeId) (size : Nat) (A : Option Addr) (n c : Nat) (xs : List Value) (fp : List Nat) : Prop :=
  xs.length = n * size ∧ ((A = none ∧ n = 0 ∧ c = 0 ∧ fp = []) ∨
    ∃ (g : Nat) (cur : Array Value), A = some ⟨g, 0, none⟩ ∧ fp = [g] ∧ w.heap[g]? = some (.cells cur e (0, 0)) ∧ n ≤ c ∧ c ≤ 9223372036854775807 ∧ c * size = cur.size ∧ ∀ (j : Nat) (u : Value), xs[j]? = some u → cur[j]? = some u)

section
variable {w w' : World} {e : TypeId} {size : Nat} {A : Option Addr} {n c : Nat} {xs ys : List Value} {fp : List Nat} {P : Program}
theorem OwnS.nil (w : World) (e : TypeId) (size : Nat) : OwnS w e size none 0 0 [] [] := ⟨by simp, .inl ⟨rfl, rfl, rfl, rfl⟩⟩
theorem OwnS.lt (h : OwnS w e size A n c xs fp) : ∀ g ∈ fp, g < w.heap.size := by
  intro g hg
  rcases h.2 with ⟨_, _, _, rfl⟩ | ⟨g', cur, rfl, rfl, hh, _⟩
  · simp at hg
  · obtain rfl : g = g' := by simpa using hg
    exact heap_lt hh
theorem OwnS.ge (h : OwnS w e size A n c xs fp) : n ≤ c := by
  rcases h.2 with ⟨_, rfl, rfl, _⟩ | ⟨g', cur, rfl, rfl, hh, h1, _⟩ <;> omega
theorem OwnS.cap (h : OwnS w e size A n c xs fp) : c ≤ 9223372036854775807 := by
  rcases h.2 with ⟨_, _, rfl, _⟩ | ⟨g, cur, _, _, _, _, h, _⟩
  · omega
  · exact h
theorem OwnS.keepS {S : List Nat} (h : OwnS w e size A n c xs fp) (hk : Keep S w w') (hd : ∀ g ∈ fp, g ∉ S) : OwnS w' e size A n c xs fp := by
  refine ⟨h.1, ?_⟩
  rcases h.2 with h0 | ⟨g, cur, rfl, rfl, hh, r⟩
  · exact .inl h0
  · exact .inr ⟨g, cur, rfl, rfl, (hk.block g (heap_lt hh) (hd g (by simp))).trans hh, r⟩
theorem OwnS.alloc (h : OwnS w e size A n c xs fp) (o : Obj) : OwnS (w.alloc o) e size A n c xs fp := h.keepS ((Keep.refl [] w).alloc o) (by simp)
theorem OwnS.drewN (h : OwnS w e size A n c xs fp) (k : Nat) : OwnS (w.drewN k) e size A n c xs fp := h
theorem OwnS.setCell {p : Addr} (h : OwnS w e size A n c xs fp) (hp : p.block ∉ fp) (u : Value) : OwnS (w.setCell p u) e size A n c xs fp :=
  h.keepS ((Keep.refl [p.block] w).setCell (.inl (by simp)) u) (by simp; rintro g hg rfl; exact hp hg)
theorem OwnS.some_ (h : OwnS w e size A n c xs fp) (hn : 0 < n) : ∃ g, A = some ⟨g, 0, none⟩ ∧ fp = [g] ∧ g < w.heap.size ∧ (∀ j u, xs[j]? = some u → w.cell? ⟨g, j, none⟩ = some u) ∧ (∀ j, w.frozen? ⟨g, j, none⟩ = false) := by
  rcases h.2 with ⟨_, h0, _⟩ | ⟨g, cur, rfl, rfl, hh, h1, h2, h3, h4⟩
  · omega
  · exact ⟨g, rfl, rfl, heap_lt hh, fun j u hu => (cell_of_heap hh _).trans (h4 j u hu), fun j => frozen_of_heap hh j⟩
theorem OwnS.rd (h : OwnS w e size A n c xs fp) : Rd w size A n xs := by
  refine ⟨h.1, fun hn => ?_⟩
  obtain ⟨g, e, _, hl, hc, _⟩ := h.some_ hn
  exact ⟨g, 0, e, hl, fun j u hu => by rw [Nat.zero_add]; exact hc j u hu⟩
theorem OwnS.set_ {g : Nat} (h : OwnS w e size (some ⟨g, 0, none⟩) n c xs fp) (k : Nat) (u : Value) : OwnS (w.setCell ⟨g, k, none⟩ u) e size (some ⟨g, 0, none⟩) n c (xs.set k u) fp := by
  refine ⟨by rw [List.length_set, h.1], .inr ?_⟩
  rcases h.2 with ⟨h0, _⟩ | ⟨g', cur, he, rfl, hh, h1, h2, h3, h4⟩
  · cases h0
  · injection he with he
    injection he with e1 _ _
    subst e1
    refine ⟨g, cur.setIfInBounds k u, rfl, rfl, heap_set hh _ _, h1, h2, by simpa using h3, fun j v hv => ?_⟩
    rw [List.getElem?_set] at hv
    by_cases hjk : k = j
    · subst hjk
      rw [if_pos rfl] at hv
      split at hv
      · rename_i hk
        injection hv with e1
        subst e1
        have := (List.getElem?_eq_some_iff.1 (List.getElem?_eq_getElem hk)).1
        have hc := h4 k _ (List.getElem?_eq_getElem hk)
        have hcl := (Array.getElem?_eq_some_iff.1 hc).1
        rw [Array.getElem?_setIfInBounds_self_of_lt hcl]
      · cases hv
    · rw [if_neg hjk] at hv
      rw [Array.getElem?_setIfInBounds_ne (by omega)]
      exact h4 j v hv

theorem run_append_S (t ty : TypeId) (i : TypeInfo) (z : Value) (bytes : Nat) (ht : P.underlying t = some (.slice e)) (hi : P.info? e = some i) (hz : i.zero = some z)
    (hsize : i.size = size) (hs0 : 0 < size) (hby : i.bytes = bytes) (hzs : z.cells.size = size) (hown : OwnS w e size A n c xs fp) (ad : Addr) (hys : ys.length = size) (hu : ∀ j v, ys[j]? = some v → w.cell? (ad.add j) = some v) (h1 : ∀ u ∈ ys, u.oneCell' = true)
    (hn : n + 1 ≤ 1000000000000) (hbytes : bytes ≤ 100) :
    ∃ g c' w', (Builtin.append_ #[t, t] ty #[.slice A n c, .slice (some ad) 1 1]).run P w = .ok (.slice (some ⟨g, 0, none⟩) (n + 1) c') w' ∧
      OwnS w' e size (some ⟨g, 0, none⟩) (n + 1) c' (xs ++ ys) [g] ∧ (g ∈ fp ∨ w.heap.size = g) ∧ g < w'.heap.size ∧ Keep fp w w' := by
  subst hby hsize
  have hb1 : (n + 1) * i.bytes ≤ 140737488355328 := Nat.le_trans (Nat.mul_le_mul hn hbytes) (by decide)
  have hl : ys.length = 1 * i.size := by omega
  have hmx : n + 1 ≤ maxLen := by simp only [maxLen]; omega
  have hxl := hown.1
  have grown : ∀ (old : Nat) (olds : List Value), olds = xs →
      OwnS (w.drew.alloc (.cells (olds.toArray ++ ys.toArray ++ Builtin.zeroCells z.cells (grownCap w (n + 1) old e - (n + 1))) e)) e i.size (some ⟨w.heap.size, 0, none⟩) (n + 1) (grownCap w (n + 1) old e) (xs ++ ys) [w.heap.size] := by
    rintro old olds rfl
    have hge := grownCap_ge w (n + 1) old e
    have hcm : grownCap w (n + 1) old e ≤ maxLen := grownCap_le_maxLen w (n + 1) old e hmx
    simp only [maxLen] at hcm
    refine ⟨by simp [hxl, hys, Nat.add_mul], .inr ⟨_, _, rfl, rfl, heap_alloc_new w.drew _, hge, hcm, ?_, ?_⟩⟩
    · simp only [Array.size_append, List.size_toArray, size_zeroCells, hzs, hxl, hys]
      generalize grownCap w (n + 1) old e = G at hge ⊢
      obtain ⟨d, rfl⟩ : ∃ d, G = n + 1 + d := ⟨G - (n + 1), by omega⟩
      rw [show n + 1 + d - (n + 1) = d from by omega]
      simp only [Nat.add_mul, Nat.one_mul]
    · intro j v hv
      have hlt : j < (olds ++ ys).length := (List.getElem?_eq_some_iff.1 hv).1
      rw [Array.getElem?_append_left (by simpa using hlt)]
      simpa using hv
  have hkeep : ∀ o : Obj, Keep fp w (w.drew.alloc o) := fun o => ((Keep.refl fp w).drew).alloc o
  rcases hown.2 with ⟨rfl, rfl, rfl, rfl⟩ | ⟨g, cur, rfl, rfl, hh, hnc, hcm, hcs, hat⟩
  · have hx : xs = [] := List.eq_nil_of_length_eq_zero (by omega)
    subst hx
    have hr := run_append_nil (P := P) w t ty e i z ht hi hz ad 1 1 ys hl hu (by omega) (by omega) (by simp at hb1; omega)
    have hg := grown 0 [] rfl
    simp only [Nat.zero_add, List.nil_append, Array.empty_append] at hg ⊢
    exact ⟨_, _, _, hr, hg, .inr rfl, by simp, hkeep _⟩
  · by_cases hroom : n + 1 ≤ c
    · have hcn : (n + 1) * i.size ≤ c * i.size := Nat.mul_le_mul_right _ hroom
      have hn1 : (n + 1) * i.size = n * i.size + i.size := by rw [Nat.add_mul, Nat.one_mul]
      have hr := run_append_room_cells (P := P) w t ty e i ht hi g 0 n c ad 1 1 ys hl hu h1 hroom (by
        intro j hj
        have hlt' : 0 + n * i.size + j < cur.size := by omega
        rw [cell_of_heap hh, Array.getElem?_eq_getElem hlt']
        rfl) (by intro j hj; exact frozen_of_heap hh _)
      obtain ⟨cur', g1, g2, g3, g4⟩ := setCells_heap g ys (0 + n * i.size) w cur hh
      have hkp := setCells_keep (S := [g]) g ys (0 + n * i.size) w w (Keep.refl _ _) (.inl (by simp))
      refine ⟨g, c, _, hr, ⟨by simp [hxl, hys, hn1], .inr ⟨g, cur', rfl, rfl, g1, hroom, hcm, by rw [g2]; exact hcs, ?_⟩⟩, .inl (by simp), Nat.lt_of_lt_of_le (heap_lt hh) hkp.size, hkp⟩
      intro j v hv
      rw [List.getElem?_append] at hv
      split at hv
      · rename_i hj
        rw [g4 j (by omega)]
        exact hat j v hv
      · rename_i hj
        have h6 := (List.getElem?_eq_some_iff.1 hv).1
        have := g3 (j - xs.length) v hv (by omega)
        rwa [show 0 + n * i.size + (j - xs.length) = j from by omega] at this
    · have holds : ∀ j v, xs[j]? = some v → w.cell? ((⟨g, 0, none⟩ : Addr).add j) = some v := by
        intro j v hv
        rw [show (⟨g, 0, none⟩ : Addr).add j = ⟨g, j, none⟩ from by simp [Addr.add]; omega]
        exact (cell_of_heap hh _).trans (hat j v hv)
      have hr := run_append_grow (P := P) w t ty e i z ht hi hz ⟨g, 0, none⟩ n c xs hxl holds ad 1 1 ys hl hu (by omega) (by omega) (growslice_fits (by omega) hb1)
      exact ⟨_, _, _, hr, grown c xs rfl, .inr rfl, by simp, hkeep _⟩

theorem wp_append_S {o : Oper} {a : Act} {K : Act → World → Prop} {Q : Exit → Act → World → Prop} (s x : Operand) (t : TypeId)
    (ho : o.op = .call { callee := .builtin .append, args := #[s, x], argTypes := #[t, t] })
    (i : TypeInfo) (z : Value) (bytes : Nat) (ht : P.underlying t = some (.slice e)) (hi : P.info? e = some i) (hz : i.zero = some z)
    (hsize : i.size = size) (hs0 : 0 < size) (hby : i.bytes = bytes) (hzs : z.cells.size = size) (hs : a.eval s = .slice A n c) (ad : Addr) (hx : a.eval x = .slice (some ad) 1 1)
    (ys : List Value) (hown : OwnS w e size A n c xs fp) (hys : ys.length = size) (hu : ∀ j v, ys[j]? = some v → w.cell? (ad.add j) = some v) (h1 : ∀ u ∈ ys, u.oneCell' = true)
    (hn : n + 1 ≤ 1000000000000) (hbytes : bytes ≤ 100)
    (h : ∀ g c' w', OwnS w' e size (some ⟨g, 0, none⟩) (n + 1) c' (xs ++ ys) [g] → (g ∈ fp ∨ w.heap.size = g) → g < w'.heap.size → Keep fp w w' → K (a.put o.dst (.slice (some ⟨g, 0, none⟩) (n + 1) c')) w') : o.wp P a w K Q := by
  obtain ⟨g, c', w', hr, h2, h3, h4, h5⟩ := run_append_S (P := P) t o.type i z bytes ht hi hz hsize hs0 hby hzs hown ad hys hu h1 hn hbytes
  unfold Oper.wp execOp
  simp only [ho, resolve, invoke, builtin, Sem.run_bind, Sem.run_pure, Result.andThen_ok, List.map_toArray, List.map_cons, List.map_nil, hs, hx, hr]
  exact h g c' w' h2 h3 h4 h5

theorem wpList_append_S {ops : Array Oper} {rest : List Oper} {o : Oper} {a : Act} {Q : Exit → Act → World → Prop} (hgd : o.guard = none) (s x : Operand) (t : TypeId)
    (ho : o.op = .call { callee := .builtin .append, args := #[s, x], argTypes := #[t, t] })
    (i : TypeInfo) (z : Value) (bytes : Nat) (ht : P.underlying t = some (.slice e)) (hi : P.info? e = some i) (hz : i.zero = some z)
    (hsize : i.size = size) (hs0 : 0 < size) (hby : i.bytes = bytes) (hzs : z.cells.size = size) (hs : a.eval s = .slice A n c) (ad : Addr) (hx : a.eval x = .slice (some ad) 1 1)
    (ys : List Value) (hown : OwnS w e size A n c xs fp) (hys : ys.length = size) (hu : ∀ j v, ys[j]? = some v → w.cell? (ad.add j) = some v) (h1 : ∀ u ∈ ys, u.oneCell' = true)
    (hn : n + 1 ≤ 1000000000000) (hbytes : bytes ≤ 100)
    (h : ∀ g c' w', OwnS w' e size (some ⟨g, 0, none⟩) (n + 1) c' (xs ++ ys) [g] → (g ∈ fp ∨ w.heap.size = g) → g < w'.heap.size → Keep fp w w' → wpList P ops Q rest (a.put o.dst (.slice (some ⟨g, 0, none⟩) (n + 1) c')) w') : wpList P ops Q (o :: rest) a w :=
  wpList_plain hgd fun _ hK => wp_append_S s x t ho i z bytes ht hi hz hsize hs0 hby hzs hs ad hx ys hown hys hu h1 hn hbytes fun g c' w' h2 h3 h4 h5 => hK _ _ (h g c' w' h2 h3 h4 h5)

theorem step_append_S {ops : Array Oper} {o : Oper} {a : Act} {K : Act → World → Prop} {Q : Exit → Act → World → Prop} {E : Prop} (hgd : o.guard = none) (s x : Operand) (t : TypeId)
    (ho : o.op = .call { callee := .builtin .append, args := #[s, x], argTypes := #[t, t] })
    (i : TypeInfo) (z : Value) (bytes : Nat) (ht : P.underlying t = some (.slice e)) (hi : P.info? e = some i) (hz : i.zero = some z)
    (hsize : i.size = size) (hs0 : 0 < size) (hby : i.bytes = bytes) (hzs : z.cells.size = size) (hs : a.eval s = .slice A n c) (ad : Addr) (hx : a.eval x = .slice (some ad) 1 1)
    (ys : List Value) (hown : OwnS w e size A n c xs fp) (hys : ys.length = size) (hu : ∀ j v, ys[j]? = some v → w.cell? (ad.add j) = some v) (h1 : ∀ u ∈ ys, u.oneCell' = true)
    (hn : n + 1 ≤ 1000000000000) (hbytes : bytes ≤ 100)
    (h : ∀ g c' w', OwnS w' e size (some ⟨g, 0, none⟩) (n + 1) c' (xs ++ ys) [g] → (g ∈ fp ∨ w.heap.size = g) → g < w'.heap.size → Keep fp w w' → K (a.put o.dst (.slice (some ⟨g, 0, none⟩) (n + 1) c')) w') :
    if Region.wanted o (yielded ops a.tmps) = true then Oper.wp P o a w K Q else E := by
  have hw : Region.wanted o (yielded ops a.tmps) = true := by simp [Region.wanted, hgd]
  rw [if_pos hw]
  exact wp_append_S s x t ho i z bytes ht hi hz hsize hs0 hby hzs hs ad hx ys hown hys hu h1 hn hbytes h
end
end Go.Proofs.YtalcinepeofmcaaDoor
/- restrict.Windows: its closure -/
namespace Go.Proofs.YtalcinepeofmcaaDoor
open Go Go.RowKit Sp

def spc (s : Int × Int) : List Value := [.int .i64 s.1, .int .i64 s.2]
def spcs (l : List (Int × Int)) : List Value := l.flatMap spc
theorem spcs_length (l : List (Int × Int)) : (spcs l).length = l.length * 2 := by
  induction l with
  | nil => rfl
  | cons s l ih => simp only [spcs, List.flatMap_cons, List.length_append, List.length_cons] at ih ⊢; rw [ih]; simp [spc]; omega
theorem spcs_append (l m : List (Int × Int)) : spcs (l ++ m) = spcs l ++ spcs m := by simp [spcs]
theorem spcs_get {l : List (Int × Int)} {k : Nat} (hk : k < l.length) : (spcs l)[k*2]? = some (.int .i64 l[k].1) ∧ (spcs l)[k*2+1]? = some (.int .i64 l[k].2) := by
  induction l generalizing k with
  | nil => simp at hk
  | cons s l ih =>
    cases k with
    | zero => simp [spcs, spc]
    | succ k =>
      have h4 : ∀ j, (spcs (s :: l))[2 + j]? = (spcs l)[j]? := fun j => by
        simp only [spcs, List.flatMap_cons, spc]
        rw [List.getElem?_append_right (by simp)]
        simp
      have e : ∀ j, (k+1)*2 + j = 2 + (k*2 + j) := fun j => by omega
      have e0 : (k+1)*2 = 2 + k*2 := by omega
      have hk' : k < l.length := by simpa using hk
      rw [e, e0, h4, h4]
      simpa using ih hk'

/-- a window that begins, or goes on, on the day -/
def joinS (L : List (Int × Int)) (day : Int) : List (Int × Int) :=
  match L.getLast? with
  | some s => if s.2 = day - 1 then L.dropLast ++ [(s.1, day)] else L ++ [(day, day)]
  | none => [(day, day)]

/-- the cell cb holds the windows L -/
def SpansIn (w : World) (cb : Nat) (L : List (Int × Int)) (fp : List Nat) : Prop :=
  ∃ A c, w.heap[cb]? = some (.cells #[.slice A L.length c] 55 (0, 0)) ∧ OwnS w 28 2 A L.length c (spcs L) fp ∧ cb ∉ fp

theorem info_span : (Tryd.prog.info? 28).map (fun i => (i.zero, i.size, i.bytes)) = some (some (.agg #[.int .i64 0, .int .i64 0]), 2, 16) := by kernel_rfl

def JoinPost (w : World) (cb : Nat) (L : List (Int × Int)) (day : Int) (fp : List Nat) (e : Ending) (w' : World) : Prop :=
  e = .returned (.tuple #[]) ∧ ∃ fp', SpansIn w' cb (joinS L day) fp' ∧ (∀ g ∈ fp', g ∈ fp ∨ w.heap.size ≤ g) ∧ Keep (cb :: fp) w w'

set_option maxRecDepth 100000 in
set_option maxHeartbeats 2000000 in
theorem joinW_any (cb : Nat) (L : List (Int × Int)) (fp : List Nat) (d : Nat) (w : World) (hs : SpansIn w cb L fp) (hl : L.length ≤ 100000) (hd : d ≤ 100000) :
    Calls Tryd.prog 64 #[.int .i64 d, .pointer (some ⟨cb, 0, none⟩)] w (JoinPost w cb L d fp) := by
  obtain ⟨i0, hi, hz0, hz1, hz2⟩ := info_parts info_span
  obtain ⟨A, c, hh, hown, hnc⟩ := hs
  have c0 : w.cell? ⟨cb, 0, none⟩ = some (.slice A L.length c) := (cell_of_heap hh 0).trans rfl
  have z0 := heap_lt hh
  have fr := frozen_of_heap hh 0
  rcases List.eq_nil_or_concat L with rfl | ⟨L', s, rfl⟩
  · have HS := Lib.hid (And.intro hh (And.intro hown hnc))
    have hgn : ¬ (cb ∈ fp ∨ (w.alloc (.cells #[.int .i64 d, .int .i64 d] 28)).heap.size = cb) := by simp; exact ⟨hnc, by omega⟩
    clear hh hown hnc
    simp only [List.length_nil] at c0
    go_enter Tryd.func64, Tryd.ntmps64
    go_wp2_with (at_builtin
                 refine wpList_append_S (size := 2) rfl (.tmp 24) (.tmp 28) 55 rfl i0 _ 16 Tryd.underlying55 hi hz0 hz1 (by decide) hz2 rfl (A := A) (n := 0) (c := c) (xs := []) (fp := fp) (by simp [Act.eval]) ⟨w.heap.size, 0, none⟩ (by simp [Act.eval]) [.int .i64 d, .int .i64 d] (HS.out.2.1.alloc _) rfl ?_ (by simp [Value.oneCell']) (by omega) (by omega) ?_
                 · intro j v hv
                   rw [show (⟨w.heap.size, 0, none⟩ : Addr).add j = ⟨w.heap.size, j, none⟩ from by simp [Addr.add]; omega, World.cell?_alloc_new]
                   simpa using hv
                 intro g c' w1 h1 h2 h3 h4
                 have hb1 : w1.heap[cb]? = some (.cells #[.slice A 0 c] 55 (0, 0)) := (h4.block cb (by simp; omega) HS.out.2.2).trans (heap_alloc' HS.out.1 _)
                 have d0 : w1.cell? ⟨cb, 0, none⟩ = some (.slice A 0 c) := (cell_of_heap hb1 0).trans rfl
                 have d1 := frozen_of_heap hb1 0
                 have HQ := Lib.hid (And.intro h1 (And.intro h2 (And.intro h4 hb1)))
                 clear h1 h2 h3 h4 hb1)
    go_end0
    refine ⟨rfl, [g], ⟨_, c', heap_set HQ.out.2.2.2 0 _, HQ.out.1.setCell (by simp; rintro rfl; exact hgn HQ.out.2.1) _, by simp; rintro rfl; exact hgn HQ.out.2.1⟩, ?_, ?_⟩
    · intro y hy
      rw [List.mem_singleton.1 hy]
      exact HQ.out.2.1.imp id (fun h => by simp at h; omega)
    · exact (((Keep.refl (cb :: fp) w).alloc _).trans HQ.out.2.2.1 (fun y hy => .inl (by simp [hy]))).setCell (.inl (by simp)) _
  · obtain ⟨n, hn⟩ : ∃ n, n = L'.length := ⟨_, rfl⟩
    have hn1 : (L' ++ [s]).length = n + 1 := by simp [hn]
    rw [List.concat_eq_append] at *
    rw [hn1] at c0 hh hown hl
    obtain ⟨g0, rfl, rfl, zg, hc, hf⟩ := hown.some_ (by omega)
    have hsp : spcs (L' ++ [s]) = spcs L' ++ spc s := by simp [spcs]
    have hlen := spcs_length L'
    rw [← hn] at hlen
    have c1 : w.cell? ⟨g0, n * 2 + 1, none⟩ = some (.int .i64 s.2) := hc _ _ (by rw [hsp, List.getElem?_append_right (by omega), hlen]; simp [spc])
    have f1 := hf (n * 2 + 1)
    have hnI : (0 : Int) ≤ (n : Int) ∧ (n : Int) ≤ 100000 := by omega
    have hgn : g0 ≠ cb := fun e => hnc (by simp [e])
    obtain ⟨x, hx⟩ : ∃ x, x = s.2 := ⟨_, rfl⟩
    rw [← hx] at c1
    have HS := Lib.hid (And.intro hh (And.intro hown (And.intro hnc (And.intro hsp (And.intro hlen (And.intro hn hx))))))
    clear hh hown hnc hsp hlen hn hx hc hf hn1
    by_cases hxd : x = (d : Int) - 1
    · have hxb : (x == (d : Int) - 1) = true := by simp [hxd]
      go_enter Tryd.func64, Tryd.ntmps64
      go_wp2_with fail
      go_end0
      have hj : joinS (L' ++ [s]) (d : Int) = L' ++ [(s.1, (d : Int))] := by simp [joinS, ← HS.out.2.2.2.2.2.2, hxd]
      have hl2 : (L' ++ [(s.1, (d : Int))]).length = n + 1 := by simp [HS.out.2.2.2.2.2.1]
      refine ⟨rfl, [g0], ?_, fun y hy => .inl hy, (Keep.refl _ _).setCell (.inl (by simp)) _⟩
      rw [hj]
      refine ⟨some ⟨g0, 0, none⟩, c, ?_, ?_, HS.out.2.2.1⟩
      · rw [hl2]; exact heap_set_ne HS.out.1 (p := ⟨g0, n * 2 + 1, none⟩) (fun e => hgn e.symm) _
      · rw [hl2]
        have h5 := HS.out.2.1.set_ (n * 2 + 1) (.int .i64 d)
        have h6 : (spcs (L' ++ [s])).set (n * 2 + 1) (.int .i64 d) = spcs (L' ++ [(s.1, (d : Int))]) := by
          rw [HS.out.2.2.2.1, spcs_append, List.set_append_right _ _ (by have := HS.out.2.2.2.2.1; omega), HS.out.2.2.2.2.1]
          simp [spc, spcs]
        rwa [h6] at h5
    · have hxb : (x == (d : Int) - 1) = false := by simp [hxd]
      go_enter Tryd.func64, Tryd.ntmps64
      go_wp2_with (at_builtin
                   refine wpList_append_S (size := 2) rfl (.tmp 24) (.tmp 28) 55 rfl i0 _ 16 Tryd.underlying55 hi hz0 hz1 (by decide) hz2 rfl (A := some ⟨g0, 0, none⟩) (n := n + 1) (c := c) (xs := spcs (L' ++ [s])) (fp := [g0]) (by simp [Act.eval]) ⟨w.heap.size, 0, none⟩ (by simp [Act.eval]) [.int .i64 d, .int .i64 d] (HS.out.2.1.alloc _) rfl ?_ (by simp [Value.oneCell']) (by omega) (by omega) ?_
                   · intro j v hv
                     rw [show (⟨w.heap.size, 0, none⟩ : Addr).add j = ⟨w.heap.size, j, none⟩ from by simp [Addr.add]; omega, World.cell?_alloc_new]
                     simpa using hv
                   intro g c' w1 h1 h2 h3 h4
                   have hb1 : w1.heap[cb]? = some (.cells #[.slice (some ⟨g0, 0, none⟩) (n + 1) c] 55 (0, 0)) := (h4.block cb (by simp; omega) HS.out.2.2.1).trans (heap_alloc' HS.out.1 _)
                   have d0 : w1.cell? ⟨cb, 0, none⟩ = some (.slice (some ⟨g0, 0, none⟩) (n + 1) c) := (cell_of_heap hb1 0).trans rfl
                   have d1 := frozen_of_heap hb1 0
                   have HQ := Lib.hid (And.intro h1 (And.intro h2 (And.intro h4 hb1)))
                   clear h1 h2 h3 h4 hb1)
      go_end0
      have hgc : ¬ (cb ∈ [g0] ∨ (w.alloc (.cells #[.int .i64 d, .int .i64 d] 28)).heap.size = cb) := by simp; exact ⟨fun e => hgn e.symm, by omega⟩
      have hj : joinS (L' ++ [s]) (d : Int) = (L' ++ [s]) ++ [((d : Int), (d : Int))] := by
        simp only [joinS, List.getLast?_append, List.getLast?_singleton, Option.some_or]
        rw [if_neg (by rw [← HS.out.2.2.2.2.2.2]; exact hxd)]
      have hl2 : ((L' ++ [s]) ++ [((d : Int), (d : Int))]).length = n + 1 + 1 := by simp [HS.out.2.2.2.2.2.1]
      refine ⟨rfl, [g], ?_, ?_, ?_⟩
      · rw [hj]
        refine ⟨some ⟨g, 0, none⟩, c', ?_, ?_, by simp; rintro rfl; exact hgc HQ.out.2.1⟩
        · rw [hl2]; exact heap_set HQ.out.2.2.2 0 _
        · rw [hl2, spcs_append]; exact HQ.out.1.setCell (by simp; rintro rfl; exact hgc HQ.out.2.1) _
      · intro y hy
        rw [List.mem_singleton.1 hy]
        exact HQ.out.2.1.imp id (fun h => by simp at h; omega)
      · exact (((Keep.refl (cb :: [g0]) w).alloc _).trans HQ.out.2.2.1 (fun y hy => .inl (by simp at hy ⊢; exact .inr hy))).setCell (.inl (by simp)) _
end Go.Proofs.YtalcinepeofmcaaDoor
