/- restrict.First -/
import Derived.Test.YtfmhlnfcbbpfeaaReview
import Derived.Deep.DeepCutAuto
namespace Go.Proofs.Ytfmhlnfcbbpfeaa
open Go Go.RowKit Sp
set_option linter.unusedVariables false

/-- where she may first, from a day on -/
def firI (p : Pol) (days : List Int) (v : Ves) (day : Int) : Int := idxL true ((passesS p days v).drop day.toNat)
def firE (p : Pol) (days : List Int) (v : Ves) (day : Int) : Int := if mayE p days v day ≠ 0 then mayE p days v day else if firI p days v day < 0 then 4 else 0
def firN (p : Pol) (days : List Int) (v : Ves) (day : Int) : Int := if firE p days v day = 0 then day + firI p days v day else 0
theorem fir_may {p : Pol} {days : List Int} {v : Ves} {day : Int} (h : mayE p days v day ≠ 0) : firE p days v day = mayE p days v day ∧ firN p days v day = 0 := by
  have e : firE p days v day = mayE p days v day := by unfold firE; rw [if_pos h]
  exact ⟨e, by unfold firN; rw [e, if_neg h]⟩
theorem fir_none {p : Pol} {days : List Int} {v : Ves} {day : Int} (h : mayE p days v day = 0) (hi : firI p days v day < 0) : firE p days v day = 4 ∧ firN p days v day = 0 := by
  have e : firE p days v day = 4 := by unfold firE; rw [if_neg (fun f => f h), if_pos hi]
  exact ⟨e, by unfold firN; rw [e]; rfl⟩
theorem fir_some {p : Pol} {days : List Int} {v : Ves} {day : Int} (h : mayE p days v day = 0) (hi : 0 ≤ firI p days v day) : firE p days v day = 0 ∧ firN p days v day = day + firI p days v day := by
  have e : firE p days v day = 0 := by unfold firE; rw [if_neg (fun f => f h), if_neg (by omega)]
  exact ⟨e, by unfold firN; rw [e]; rfl⟩

set_option maxRecDepth 100000 in
set_option maxHeartbeats 1000000 in
theorem First_any (As : Option Addr) (cs : Nat) (p : Pol) (A : Option Addr) (c : Nat) (days : List Int) (v : Ves) (day : Int) (w : World) (hp : PolV w As cs p) (hr : Rd w 1 A days.length (ints days)) (hm : days.length ≤ 9223372036854775807) :
    Calls Try.prog 27 #[.agg #[.slice As p.steps.length cs, .int .i64 p.hold, .int .i64 p.calm, .int .i64 p.notice, .int .i64 p.grace], .slice A days.length c, .agg #[.int .i64 v.cls, .int .i64 v.ton, .bool v.esc], .int .i64 day] w
      fun e w' => e = .returned (.tuple #[.int .i64 (firN p days v day), .int .i64 (firE p days v day)]) ∧ Below w.heap.size w w' := by
  obtain ⟨er, her⟩ : ∃ er, er = askS p days v := ⟨_, rfl⟩
  obtain ⟨n, hn⟩ : ∃ n, n = if er = 0 then days.length else 0 := ⟨_, rfl⟩
  have b0 : ∀ o o', Below w.heap.size w ((w.alloc o).alloc o') := fun o o' => ((Below.refl _ _).alloc (Nat.le_refl _) _).alloc (by simp) _
  have hak : ∀ o o', Calls Try.prog 82 #[.agg #[.slice As p.steps.length cs, .int .i64 p.hold, .int .i64 p.calm, .int .i64 p.notice, .int .i64 p.grace], .slice A days.length c, .agg #[.int .i64 v.cls, .int .i64 v.ton, .bool v.esc]]
      ((w.alloc o).alloc o')
      fun e w1 => ∃ A1 c1, e = .returned (.tuple #[.slice A1 n c1, .int .i64 er]) ∧ (er = 0 → BoolsAt w1 A1 c1 (passesS p days v)) ∧ Below w.heap.size w w1 := by
    intro o o'
    refine (asked_any As cs p A c days v _ ⟨hp.1, hp.2.1, hp.2.2.below (b0 _ _)⟩ (hr.below (b0 _ _)) hm).mono ?_
    rintro e w1 ⟨A1, c1, rfl, h1, h2⟩
    exact ⟨A1, c1, by rw [hn, her], fun h => h1 (her.symm.trans h), (b0 _ _).trans (h2.mono (by simp; omega))⟩
  have HP := Lib.hid (And.intro her (And.intro hn hak))
  clear her hn hak b0 hr
  by_cases h0 : er = 0
  · subst h0
    have hne : ((0 : Int) != 0) = false := rfl
    obtain rfl : n = days.length := HP.out.2.1
    obtain ⟨dr, hdr⟩ : ∃ dr, dr = within day 0 ((days.length : Int) - 1) := ⟨_, rfl⟩
    have hin : ∀ wx, Calls Try.prog 76 #[.int .i64 day, .int .i64 0, .int .i64 ((days.length : Int) - 1)] wx fun e w' => e = .returned (.bool dr) ∧ wx = w' := fun wx => by rw [hdr]; exact within_any day 0 _ wx
    have HD := Lib.hid (And.intro hdr hin)
    clear hdr hin
    cases dr
    · go_enter Try.func27, Try.ntmps27
      go_wp2_with fail
      refine (HP.out.2.2 _ _).mono ?_
      rintro e w1 ⟨A1, c1, rfl, h1, h2⟩
      have HB := Lib.hid (And.intro h1 h2)
      clear h1 h2
      go_wp2_with (go_at_call 76; refine (HD.out.2 _).mono ?_; rintro e w2 ⟨rfl, rfl⟩)
      go_ret2
      have he : mayE p days v day = 6 := by rw [may_day HP.out.1.symm, ← HD.out.1]; rfl
      have hf := fir_may (p := p) (days := days) (v := v) (day := day) (by rw [he]; decide)
      exact ⟨by rw [hf.1, hf.2, he]; rfl, HB.out.2⟩
    · have hlt : 0 ≤ day ∧ day < days.length := by have := HD.out.1; simp [within] at this; omega
      obtain ⟨k, rfl⟩ : ∃ k : Nat, day = k := ⟨day.toNat, by omega⟩
      have hlt' : k < days.length := by omega
      clear hlt
      go_enter Try.func27, Try.ntmps27
      go_wp2_with fail
      refine (HP.out.2.2 _ _).mono ?_
      rintro e w1 ⟨A1, c1, rfl, h1, h2⟩
      obtain ⟨hr1, hc1, hc2⟩ := h1 trivial
      rw [passesS_length] at hr1 hc1
      obtain ⟨b, off, rfl, hb, hc⟩ := hr1.2 (by omega)
      have hL : ((passesS p days v).drop k).length = days.length - k := by rw [List.length_drop, passesS_length]
      obtain ⟨f, hf⟩ : ∃ f, f = firI p days v k := ⟨_, rfl⟩
      have hix : ∀ cx, Calls Try.prog 78 #[.slice (some ⟨b, off + k, none⟩) (days.length - k) cx, .bool true] w1 fun e w' => e = .returned (.int .i64 f) ∧ w1 = w' := by
        intro cx
        have := indexB_any (some ⟨b, off + k, none⟩) cx ((passesS p days v).drop k) true w1 ?_ (by rw [hL]; omega)
        · rw [hL] at this
          rw [hf, firI, Int.toNat_natCast]; exact this
        · rw [hL]
          have := rd_sub (a := k) (m := days.length - k) hr1 (by omega) hb hc
          rw [bools, ← List.map_drop, ← List.map_take, List.take_of_length_le (by rw [hL]; omega)] at this
          exact this
      have hfr : -1 ≤ f ∧ f ≤ days.length - k := by
        have := idxL_range true ((passesS p days v).drop k)
        rw [hL] at this
        rw [hf, firI, Int.toNat_natCast]
        omega
      have HB := Lib.hid (And.intro h2 (And.intro hix hf))
      clear h1 h2 hc hr1 hix hf hL
      have n1 : (0 : Int) ≤ (k : Int) := by omega
      by_cases hf0 : f < 0
      · go_wp2_with (first | (go_at_call 76; refine (HD.out.2 _).mono ?_; rintro e w2 ⟨rfl, rfl⟩) | (go_at_call 78; refine (HB.out.2.1 _).mono ?_; rintro e w2 ⟨rfl, rfl⟩))
        go_ret2
        have he : mayE p days v (k : Int) = 0 := by rw [may_day HP.out.1.symm, ← HD.out.1]; rfl
        have hff := fir_none he (by rw [← HB.out.2.2]; exact hf0)
        exact ⟨by rw [hff.1, hff.2]; rfl, HB.out.1⟩
      · go_wp2_with (first | (go_at_call 76; refine (HD.out.2 _).mono ?_; rintro e w2 ⟨rfl, rfl⟩) | (go_at_call 78; refine (HB.out.2.1 _).mono ?_; rintro e w2 ⟨rfl, rfl⟩))
        go_ret2
        have he : mayE p days v (k : Int) = 0 := by rw [may_day HP.out.1.symm, ← HD.out.1]; rfl
        have hff := fir_some he (by rw [← HB.out.2.2]; omega)
        exact ⟨by rw [hff.1, hff.2, HB.out.2.2]; rfl, HB.out.1⟩
  · have hne : (er != 0) = true := by simp [h0]
    have HK := Lib.hid h0
    clear h0
    go_enter Try.func27, Try.ntmps27
    go_wp2_with fail
    refine (HP.out.2.2 _ _).mono ?_
    rintro e w1 ⟨A1, c1, rfl, h1, h2⟩
    have HB := Lib.hid h2
    clear h1 h2
    go_wp2_with fail
    go_ret2
    have he : mayE p days v day = er := by rw [may_ask (by rw [← HP.out.1]; exact HK.out), HP.out.1]
    have hf := fir_may (p := p) (days := days) (v := v) (day := day) (by rw [he]; exact HK.out)
    exact ⟨by rw [hf.1, hf.2, he]; rfl, HB.out⟩

end Go.Proofs.Ytfmhlnfcbbpfeaa
