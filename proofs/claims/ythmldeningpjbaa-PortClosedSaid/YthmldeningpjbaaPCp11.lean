/- restrict.First -/
import Derived.Test.YthmldeningpjbaaPCp10
import Derived.Deep.DeepCutAuto
import Derived.Test.YthmldeningpjbaaPCp1
import Derived.Test.YthmldeningpjbaaPCp2
import Derived.Test.YthmldeningpjbaaPCp3
import Derived.Test.YthmldeningpjbaaPCp4
import Derived.Test.YthmldeningpjbaaPCp5
import Derived.Test.YthmldeningpjbaaPCp0
import Derived.Test.YthmldeningpjbaaPCp6
set_option linter.unusedVariables false
set_option linter.unusedSimpArgs false
namespace Go.Proofs.Ythmldeningpjbaa
open Go Go.RowKit Sp
set_option linter.unusedVariables false

/-- where she may first, from a day on -/
def firI (p : Pol) (days : List Int) (v : Ves) (day : Int) : Int := idxL true ((passesS p days v).drop day.toNat)
def firE (p : Pol) (days : List Int) (v : Ves) (day : Int) : Int := if mayE p days v day ≠ 0 then mayE p days v day else if firI p days v day < 0 then 4 else 0
def firN (p : Pol) (days : List Int) (v : Ves) (day : Int) : Int := if firE p days v day = 0 then day + firI p days v day else 0
theorem fir_may {p : Pol} {days : List Int} {v : Ves} {day : Int} (h : mayE p days v day ≠ 0) : firE p days v day = mayE p days v day ∧ firN p days v day = 0 := by
  have e : firE p days v day = mayE p days v day := by unfold firE; rw [if_pos h]
  exact ⟨e, by unfold firN; rw [e, if_neg h]⟩
theorem fir_none {p : Pol} {days : List Int} {v : Ves} {day : Int} (h : mayE p days v day = 0) (hi : firI p days v day < 0) : firE p days v day = 4 ∧ firN p days v day = 0 := by
  have e : firE p days v day = 4 := by unfold firE; rw [if_neg (fun f => f h), if_pos hi]
  exact ⟨e, by unfold firN; rw [e]; rfl⟩
theorem fir_some {p : Pol} {days : List Int} {v : Ves} {day : Int} (h : mayE p days v day = 0) (hi : 0 ≤ firI p days v day) : firE p days v day = 0 ∧ firN p days v day = day + firI p days v day := by
  have e : firE p days v day = 0 := by unfold firE; rw [if_neg (fun f => f h), if_neg (by omega)]
  exact ⟨e, by unfold firN; rw [e]; rfl⟩

set_option maxRecDepth 100000 in
set_option maxHeartbeats 1000000 in
theorem First_any (As : Option Addr) (cs : Nat) (p : Pol) (A : Option Addr) (c : Nat) (days : List Int) (v : Ves) (day : Int) (w : World) (hp : PolV w As cs p) (hr : Rd w 1 A days.length (ints days)) (hm : days.length ≤ 9223372036854775807) :
    Calls Try.prog 66 #[.agg #[.slice As p.steps.length cs, .int .i64 p.hold, .int .i64 p.calm, .int .i64 p.notice, .int .i64 p.grace], .slice A days.length c, .agg #[.int .i64 v.cls, .int .i64 v.ton, .bool v.esc], .int .i64 day] w
      fun e w' => e = .returned (.tuple #[.int .i64 (firN p days v day), .int .i64 (firE p days v day)]) ∧ Below w.heap.size w w' := by
  obtain ⟨er, her⟩ : ∃ er, er = askS p days v := ⟨_, rfl⟩
  obtain ⟨n, hn⟩ : ∃ n, n = if er = 0 then days.length else 0 := ⟨_, rfl⟩
  have b0 : ∀ o o', Below w.heap.size w ((w.alloc o).alloc o') := fun o o' => ((Below.refl _ _).alloc (Nat.le_refl _) _).alloc (by simp) _
  have hak : ∀ o o', Calls Try.prog 116 #[.agg #[.slice As p.steps.length cs, .int .i64 p.hold, .int .i64 p.calm, .int .i64 p.notice, .int .i64 p.grace], .slice A days.length c, .agg #[.int .i64 v.cls, .int .i64 v.ton, .bool v.esc]]
      ((w.alloc o).alloc o')
      fun e w1 => ∃ A1 c1, e = .returned (.tuple #[.slice A1 n c1, .int .i64 er]) ∧ (er = 0 → BoolsAt w1 A1 c1 (passesS p days v)) ∧ Below w.heap.size w w1 := by
    intro o o'
    refine (asked8_any As cs p A c days v _ ⟨hp.1, hp.2.1, hp.2.2.below (b0 _ _)⟩ (hr.below (b0 _ _)) hm).mono ?_
    rintro e w1 ⟨A1, c1, rfl, h1, h2⟩
    exact ⟨A1, c1, by rw [hn, her], fun h => h1 (her.symm.trans h), (b0 _ _).trans (h2.mono (by simp; omega))⟩
  have HP := Lib.hid (And.intro her (And.intro hn hak))
  clear her hn hak b0 hr
  by_cases h0 : er = 0
  · subst h0
    have hne : ((0 : Int) != 0) = false := rfl
    obtain rfl : n = days.length := HP.out.2.1
    obtain ⟨dr, hdr⟩ : ∃ dr, dr = within day 0 ((days.length : Int) - 1) := ⟨_, rfl⟩
    have hin : ∀ wx, Calls Try.prog 118 #[.int .i64 day, .int .i64 0, .int .i64 ((days.length : Int) - 1)] wx fun e w' => e = .returned (.bool dr) ∧ wx = w' := fun wx => by rw [hdr]; exact within_any day 0 _ wx
    have HD := Lib.hid (And.intro hdr hin)
    clear hdr hin
    cases dr
    · go_enter Try.func66, Try.ntmps66
      go_wp2_with fail
      refine (HP.out.2.2 _ _).mono ?_
      rintro e w1 ⟨A1, c1, rfl, h1, h2⟩
      have HB := Lib.hid (And.intro h1 h2)
      clear h1 h2
      go_wp2_with (go_at_call 118; refine (HD.out.2 _).mono ?_; rintro e w2 ⟨rfl, rfl⟩)
      go_ret2
      have he : mayE p days v day = 6 := by rw [may_day HP.out.1.symm, ← HD.out.1]; rfl
      have hf := fir_may (p := p) (days := days) (v := v) (day := day) (by rw [he]; decide)
      exact ⟨by rw [hf.1, hf.2, he]; rfl, HB.out.2⟩
    · have hlt : 0 ≤ day ∧ day < days.length := by have := HD.out.1; simp [within] at this; omega
      obtain ⟨k, rfl⟩ : ∃ k : Nat, day = k := ⟨day.toNat, by omega⟩
      have hlt' : k < days.length := by omega
      clear hlt
      go_enter Try.func66, Try.ntmps66
      go_wp2_with fail
      refine (HP.out.2.2 _ _).mono ?_
      rintro e w1 ⟨A1, c1, rfl, h1, h2⟩
      obtain ⟨hr1, hc1, hc2⟩ := h1 trivial
      rw [passesS_length] at hr1 hc1
      obtain ⟨b, off, rfl, hb, hc⟩ := hr1.2 (by omega)
      have hL : ((passesS p days v).drop k).length = days.length - k := by rw [List.length_drop, passesS_length]
      obtain ⟨f, hf⟩ : ∃ f, f = firI p days v k := ⟨_, rfl⟩
      have hix : ∀ cx, Calls Try.prog 119 #[.slice (some ⟨b, off + k, none⟩) (days.length - k) cx, .bool true] w1 fun e w' => e = .returned (.int .i64 f) ∧ w1 = w' := by
        intro cx
        have := indexB_any (some ⟨b, off + k, none⟩) cx ((passesS p days v).drop k) true w1 ?_ (by rw [hL]; omega)
        · rw [hL] at this
          rw [hf, firI, Int.toNat_natCast]; exact this
        · rw [hL]
          have := rd_sub (a := k) (m := days.length - k) hr1 (by omega) hb hc
          rw [bools, ← List.map_drop, ← List.map_take, List.take_of_length_le (by rw [hL]; omega)] at this
          exact this
      have hfr : -1 ≤ f ∧ f ≤ days.length - k := by
        have := idxL_range true ((passesS p days v).drop k)
        rw [hL] at this
        rw [hf, firI, Int.toNat_natCast]
        omega
      have HB := Lib.hid (And.intro h2 (And.intro hix hf))
      clear h1 h2 hc hr1 hix hf hL
      have n1 : (0 : Int) ≤ (k : Int) := by omega
      by_cases hf0 : f < 0
      · go_wp2_with (first | (go_at_call 118; refine (HD.out.2 _).mono ?_; rintro e w2 ⟨rfl, rfl⟩) | (go_at_call 119; refine (HB.out.2.1 _).mono ?_; rintro e w2 ⟨rfl, rfl⟩))
        go_ret2
        have he : mayE p days v (k : Int) = 0 := by rw [may_day HP.out.1.symm, ← HD.out.1]; rfl
        have hff := fir_none he (by rw [← HB.out.2.2]; exact hf0)
        exact ⟨by rw [hff.1, hff.2]; rfl, HB.out.1⟩
      · go_wp2_with (first | (go_at_call 118; refine (HD.out.2 _).mono ?_; rintro e w2 ⟨rfl, rfl⟩) | (go_at_call 119; refine (HB.out.2.1 _).mono ?_; rintro e w2 ⟨rfl, rfl⟩))
        go_ret2
        have he : mayE p days v (k : Int) = 0 := by rw [may_day HP.out.1.symm, ← HD.out.1]; rfl
        have hff := fir_some he (by rw [← HB.out.2.2]; omega)
        exact ⟨by rw [hff.1, hff.2, HB.out.2.2]; rfl, HB.out.1⟩
  · have hne : (er != 0) = true := by simp [h0]
    have HK := Lib.hid h0
    clear h0
    go_enter Try.func66, Try.ntmps66
    go_wp2_with fail
    refine (HP.out.2.2 _ _).mono ?_
    rintro e w1 ⟨A1, c1, rfl, h1, h2⟩
    have HB := Lib.hid h2
    clear h1 h2
    go_wp2_with fail
    go_ret2
    have he : mayE p days v day = er := by rw [may_ask (by rw [← HP.out.1]; exact HK.out), HP.out.1]
    have hf := fir_may (p := p) (days := days) (v := v) (day := day) (by rw [he]; exact HK.out)
    exact ⟨by rw [hf.1, hf.2, he]; rfl, HB.out⟩

end Go.Proofs.Ythmldeningpjbaa
/- Plain law of PortClosed: one visit is placed at the first berth when she comes; a day of a window is the first one on which she may. No program is named here. -/
namespace Go.Proofs.Ythmldeningpjbaa
open Sp Pt
set_option linter.unusedVariables false
set_option linter.unusedSimpArgs false

theorem foldl_stays {S T : Type} (f : S → T → S) (s : S) : ∀ l : List T, (∀ x ∈ l, f s x = s) → l.foldl f s = s
  | [], _ => rfl
  | x :: l, h => by
    rw [List.foldl_cons, h x (by simp)]
    exact foldl_stays f s l fun y hy => h y (by simp [hy])

/-- one visit, at a port whose berths are all deep enough: berth 0, when she comes -/
theorem best_one {p : Prt} {v : Vst} (hc : checkP p = 0) (hv : vstOk v = true) (hb : p.bts ≠ []) (hd : ∀ b ∈ p.bts, v.dra ≤ b.depth) (h0 : 0 ≤ v.arr) (h1 : v.arr ≤ v.last) :
    bestE p [v] = 0 ∧ bestN p [v] = 0 ∧ bestV p [v] = [⟨0, v.arr⟩] := by
  have ha : askedE p [v] = 0 := by
    unfold askedE
    rw [if_neg (fun f => f hc), if_neg (by simp), if_neg (by simp [hv])]
  have hm : max v.arr 0 = v.arr := by omega
  have step : ∀ (s : Bst) (b : Nat), b < p.bts.length → (if (p.bts.getD b default).depth < (vs [v] 0).dra ∨ (vs [v] 0).last < max (vs [v] 0).arr ((List.replicate p.bts.length (0:Int)).getD b 0) then s
        else seekS p [v] 0 (0 + max (vs [v] 0).arr ((List.replicate p.bts.length (0:Int)).getD b 0) - (vs [v] 0).arr) ((List.replicate p.bts.length (0:Int)).set b (max (vs [v] 0).arr ((List.replicate p.bts.length (0:Int)).getD b 0) + (vs [v] 0).stay)) ([false].set 0 true)
          ⟨s.least, s.found, s.places.set 0 ⟨b, max (vs [v] 0).arr ((List.replicate p.bts.length (0:Int)).getD b 0)⟩⟩)
      = (if 0 ≤ s.least ∧ s.least < 0 then ⟨s.least, s.found, s.places.set 0 ⟨b, v.arr⟩⟩ else bestLeaf 0 ⟨s.least, s.found, s.places.set 0 ⟨b, v.arr⟩⟩) := by
    intro s b hb'
    have e0 : vs [v] 0 = v := rfl
    have e1 : (List.replicate p.bts.length (0:Int)).getD b 0 = 0 := by
      simp [List.getD_eq_getElem?_getD, List.getElem?_replicate, hb']
    have e2 : v.dra ≤ (p.bts.getD b default).depth := by
      have : p.bts.getD b default = p.bts[b] := by simp [List.getD_eq_getElem?_getD, hb']
      rw [this]; exact hd _ (List.getElem_mem _)
    rw [e0, e1, hm, if_neg (by omega)]
    rw [show (0 : Int) + v.arr - v.arr = 0 from by omega]
    rfl
  have hs : bestS p [v] = ⟨0, [⟨0, v.arr⟩], [⟨((p.bts.length - 1 : Nat) : Int), v.arr⟩]⟩ := by
    unfold bestS
    show seekS p [v] 1 0 (List.replicate p.bts.length 0) [false] ⟨-1, [], [⟨0, 0⟩]⟩ = _
    rw [seekS]
    rw [if_neg (by simp)]
    show (List.range 1).foldl _ _ = _
    rw [show List.range 1 = [0] from rfl, List.foldl_cons, List.foldl_nil]
    rw [if_neg (by simp)]
    have key : ∀ n, n + 1 ≤ p.bts.length → (List.range (n + 1)).foldl (fun s b =>
        if (p.bts.getD b default).depth < (vs [v] 0).dra ∨ (vs [v] 0).last < max (vs [v] 0).arr ((List.replicate p.bts.length (0:Int)).getD b 0) then s
        else seekS p [v] 0 (0 + max (vs [v] 0).arr ((List.replicate p.bts.length (0:Int)).getD b 0) - (vs [v] 0).arr) ((List.replicate p.bts.length (0:Int)).set b (max (vs [v] 0).arr ((List.replicate p.bts.length (0:Int)).getD b 0) + (vs [v] 0).stay)) ([false].set 0 true)
          ⟨s.least, s.found, s.places.set 0 ⟨b, max (vs [v] 0).arr ((List.replicate p.bts.length (0:Int)).getD b 0)⟩⟩) (⟨-1, [], [⟨0, 0⟩]⟩ : Bst) = ⟨0, [⟨0, v.arr⟩], [⟨(n : Int), v.arr⟩]⟩ := by
      intro n
      induction n with
      | zero =>
        intro h
        rw [show List.range (0 + 1) = [0] from rfl, List.foldl_cons, List.foldl_nil, step _ 0 (by omega)]
        rfl
      | succ n ih =>
        intro h
        rw [List.range_succ, List.foldl_append, ih (by omega), List.foldl_cons, List.foldl_nil, step _ (n + 1) (by omega)]
        rw [if_neg (by simp)]
        unfold bestLeaf
        have hc : cmpPl [⟨((n + 1 : Nat) : Int), v.arr⟩] [⟨0, v.arr⟩] = (n + 1 : Nat) := by
          simp [cmpPl, cmp1]; omega
        simp only [List.set_cons_zero, hc]
        rw [if_neg (by omega)]
    have hl : 0 < p.bts.length := List.length_pos_iff.2 hb
    obtain ⟨n, hn⟩ : ∃ n, p.bts.length = n + 1 := ⟨p.bts.length - 1, by omega⟩
    have := key n (by omega)
    rw [hn] at this ⊢
    exact this
  have hE : bestE p [v] = 0 := by unfold bestE; rw [if_neg (fun f => f ha), hs]; rfl
  refine ⟨hE, ?_, ?_⟩
  · unfold bestN; rw [if_pos hE, hs]
  · unfold bestV; rw [if_pos hE, hs]

theorem ask_zero {p : Pol} {days : List Int} {v : Ves} (h : checkS p = 0) (hd : DaysOk days) (hl : days.length ≤ 400) (hv : vright v = true) : askS p days v = 0 := by
  rw [ask_right (start_zero h hd hl), if_pos hv]

/-- a day of a window -/
theorem win_day {p : Pol} {days : List Int} {v : Ves} (h : askS p days v = 0) {s : Int × Int} (hs : s ∈ windowsS p days v) {d : Int} (h1 : s.1 ≤ d) (h2 : d ≤ s.2) :
    mayB p days v d = true ∧ mayE p days v d = 0 ∧ firN p days v d = d ∧ firE p days v d = 0 := by
  unfold windowsS at hs
  rw [if_pos h] at hs
  have W := winN_ok (passesS p days v) days.length
  have hr := W.rng s hs
  obtain ⟨k, rfl⟩ : ∃ k : Nat, d = k := ⟨d.toNat, by omega⟩
  have hm := W.may s hs k h1 h2
  have e1 : mayE p days v k = 0 := by rw [may_day h, if_pos]; simp [within]; omega
  have e2 : mayB p days v k = true := by unfold mayB; rw [if_pos e1]; simpa using hm
  have e3 : firI p days v k = 0 := by
    unfold firI
    rw [Int.toNat_natCast]
    have hlt : k < (passesS p days v).length := by rw [passesS_length]; omega
    rw [List.drop_eq_getElem_cons hlt]
    have : (passesS p days v)[k] = true := by simpa [List.getD_eq_getElem?_getD, hlt] using hm
    rw [this]
    simp [idxL]
  have := fir_some e1 (by omega : 0 ≤ firI p days v k)
  exact ⟨e2, e1, by rw [this.2, e3]; omega, this.1⟩
end Go.Proofs.Ythmldeningpjbaa
/- a function that yields numbers: what a call of it gives, and what stays -/
namespace Go.Proofs.Ythmldeningpjbaa
open Go Go.RowKit Go.Lib Sp
set_option linter.unusedVariables false

/-- a function that yields numbers; its bytes lie below D, its cells from D on -/
def NxS (D : Nat) (w : World) (ib lb : Nat) : Prop := ∃ A c l k, DrawSt w ib lb A c l k ∧ Bytes l ∧ l.length ≤ 9223372036854775806 ∧ ib ≠ lb ∧ D ≤ ib ∧ D ≤ lb ∧ (0 < l.length → ∀ b off, A = some ⟨b, off, none⟩ → b < D)
theorem NxS.keep {D : Nat} {w w' : World} {ib lb : Nat} (h : NxS D w ib lb) {S : List Nat} (hk : Keep S w w') (hS : ∀ x ∈ S, D ≤ x ∧ x ≠ ib ∧ x ≠ lb) : NxS D w' ib lb := by
  obtain ⟨A, c, l, k, h1, h2, h3, h4, h5, h6, h7⟩ := h
  exact ⟨A, c, l, k, h1.keep hk (fun e => (hS _ e).2.1 rfl) (fun e => (hS _ e).2.2 rfl) (fun h0 b off e hm => by have := h7 h0 b off e; have := (hS _ hm).1; omega), h2, h3, h4, h5, h6, h7⟩
theorem NxS.below {D : Nat} {w w' : World} {ib lb : Nat} (h : NxS D w ib lb) (hb : Below w.heap.size w w') : NxS D w' ib lb := h.keep (S := []) (Keep.of_below hb) (by simp)
theorem NxS.lt {D : Nat} {w : World} {ib lb : Nat} (h : NxS D w ib lb) : ib < w.heap.size ∧ lb < w.heap.size ∧ D ≤ ib ∧ D ≤ lb ∧ ib ≠ lb := by
  obtain ⟨A, c, l, k, h1, h2, h3, h4, h5, h6, h7⟩ := h
  exact ⟨heap_lt h1.cnt, heap_lt h1.lst, h5, h6, h4⟩
def SomePost (D : Nat) (w : World) (ib lb : Nat) (n : Int) (e : Ending) (w' : World) : Prop := ∃ x : Int, e = .returned (.int .i64 x) ∧ (0 ≤ x ∧ x < n) ∧ NxS D w' ib lb ∧ Keep [ib] w w' ∧ w'.heap.size = w.heap.size
theorem next_some {D : Nat} {ib lb : Nat} (n : Int) {w : World} (h : NxS D w ib lb) (hn : 0 < n ∧ n ≤ 1000) :
    Calls Try.prog 70 #[.int .i64 n, .pointer (some ⟨ib, 0, none⟩), .pointer (some ⟨lb, 0, none⟩)] w (SomePost D w ib lb n) := by
  obtain ⟨A, c, l, k, h1, h2, h3, h4, h5, h6, h7⟩ := h
  refine (next_any ib lb A c l k n w h1 h2 h3 h4 (fun h0 b off e => by have := h7 h0 b off e; omega) hn).mono ?_
  rintro e w' ⟨rfl, q1, q2, q3⟩
  exact ⟨_, rfl, draw_range k hn.1, ⟨A, c, l, k + 1, q1, h2, h3, h4, h5, h6, h7⟩, q2, q3⟩
def DrawnPost (D : Nat) (w : World) (e : Ending) (w' : World) : Prop := ∃ ib lb, e = .returned (.func (.func 70) #[] #[.pointer (some ⟨ib, 0, none⟩), .pointer (some ⟨lb, 0, none⟩)]) ∧ NxS D w' ib lb ∧ w.heap.size ≤ ib ∧ w.heap.size ≤ lb ∧ Below w.heap.size w w'
theorem Drawn_some (D : Nat) (A : Option Addr) (c : Nat) (l : List Int) (w : World) (hr : Rd w 1 A l.length (byts l)) (hb : Bytes l) (hl : l.length ≤ 9223372036854775806) (hD : D ≤ w.heap.size) (hA : 0 < l.length → ∀ b off, A = some ⟨b, off, none⟩ → b < D) :
    Calls Try.prog 16 #[.slice A l.length c] w (DrawnPost D w) := by
  refine (Drawn_any A c l w hr).mono ?_
  rintro e w' ⟨rfl, h1, h2, h3⟩
  exact ⟨_, _, rfl, ⟨A, c, l, 0, h1, hb, hl, by omega, by omega, hD, hA⟩, by omega, Nat.le_refl _, h2⟩
end Go.Proofs.Ythmldeningpjbaa
/- One element put behind the others of a list that lies in a struct, numbers being drawn on the way, in a region that draws its order. -/
namespace Go.Proofs.Ythmldeningpjbaa
open Go Go.RowKit Sp

structure ApC where
  ib : Nat
  lb : Nat
  k0 : Nat
  A0 : Option Addr
  c0 : Nat
  l0 : List Int
  ob : Nat
  e : TypeId
  sz : Nat
  k : Nat
  A : Option Addr
  c : Nat
  xs : List Value
  q : List Nat
  ys : List Value
  old : Array Value
  new : Option Addr → Nat → Array Value
  t : TypeId
structure ApS where
  bs : Nat
  A : Option Addr
  c : Nat
  g : Nat
structure ApOk (C : ApC) (W0 : World) : Prop where
  dr : DrawSt W0 C.ib C.lb C.A0 C.c0 C.l0 C.k0
  own : OwnS W0 C.e C.sz C.A C.k C.c C.xs C.q
  hob : W0.heap[C.ob]? = some (.cells C.old C.t (0, 0))
  obq : C.ob ∉ C.q
  oib : C.ob ≠ C.ib
  olb : C.ob ≠ C.lb
  ibq : C.ib ∉ C.q
  lbq : C.lb ∉ C.q
  ne : C.ib ≠ C.lb
  apart : 0 < C.l0.length → ∀ b off, C.A0 = some ⟨b, off, none⟩ → b ≠ C.ib ∧ b ≠ C.ob ∧ b ∉ C.q
  byt : Bytes C.l0
  len : C.l0.length ≤ 9223372036854775806
structure ApW (C : ApC) (opB opA opS : Nat) (cnt : (Nat → Bool) → Nat) (W0 : World) (s : ApS) (l : Nat → Bool) (w : World) : Prop where
  kp : Keep (C.ib :: C.ob :: C.q) W0 w
  dr : DrawSt w C.ib C.lb C.A0 C.c0 C.l0 (C.k0 + cnt l)
  own0 : l opA = false → OwnS w C.e C.sz C.A C.k C.c C.xs C.q
  own1 : l opA = true → OwnS w C.e C.sz s.A (C.k + 1) s.c (C.xs ++ C.ys) [s.g] ∧ (s.g ∈ C.q ∨ W0.heap.size ≤ s.g)
  hob : w.heap[C.ob]? = some (.cells (if l opS then C.new s.A s.c else C.old) C.t (0, 0))
  hbs : l opB = true → W0.heap.size ≤ s.bs ∧ w.heap[s.bs]? = some (.cells C.ys.toArray C.e (0, 0))
section
variable {C : ApC} {opB opA opS : Nat} {cnt : (Nat → Bool) → Nat} {W0 w w' : World} {s : ApS} {l : Nat → Bool}
theorem upd_ne {l : Nat → Bool} {i j : Nat} (h : i ≠ j) : upd l i j = l j := by simp [upd, Ne.symm h]
theorem upd_eq {l : Nat → Bool} {i : Nat} : upd l i i = true := by simp [upd]
theorem ApOk.start (O : ApOk C W0) (h : cnt (fun _ => false) = 0) : ApW C opB opA opS cnt W0 s (fun _ => false) W0.drew :=
  ⟨(Keep.refl _ _).drew, by rw [h]; exact O.dr.keep (S := []) ((Keep.refl _ _).drew) (by simp) (by simp) (by simp), fun _ => O.own, (fun h => by cases h), by rw [if_neg (by simp)]; exact O.hob, (fun h => by cases h)⟩
theorem ApOk.fresh (O : ApOk C W0) (H : ApW C opB opA opS cnt W0 s l w) (hb : l opB = true) : s.bs ≠ C.ib ∧ s.bs ≠ C.lb ∧ s.bs ≠ C.ob ∧ s.bs ∉ C.q := by
  have h1 := (H.hbs hb).1
  have h2 := heap_lt O.dr.cnt
  have h3 := heap_lt O.dr.lst
  have h4 := heap_lt O.hob
  exact ⟨by omega, by omega, by omega, fun h => by have := O.own.lt _ h; omega⟩
theorem ApW.call (H : ApW C opB opA opS cnt W0 s l w) (O : ApOk C W0) (i : Nat) (hi : i ≠ opB ∧ i ≠ opA ∧ i ≠ opS) (hd : DrawSt w' C.ib C.lb C.A0 C.c0 C.l0 (C.k0 + cnt (upd l i))) (hk : Keep [C.ib] w w') : ApW C opB opA opS cnt W0 s (upd l i) w' := by
  obtain ⟨a1, a2, a3⟩ := hi
  have h2 := heap_lt O.dr.cnt
  refine ⟨H.kp.trans hk (fun x hx => .inl (by simp at hx; simp [hx])), hd, ?_, ?_, ?_, ?_⟩
  · rw [upd_ne a2]; exact fun e => (H.own0 e).keepS hk (fun g hg => by simp; rintro rfl; exact O.ibq hg)
  · rw [upd_ne a2]
    refine fun e => ⟨(H.own1 e).1.keepS hk (fun g hg => ?_), (H.own1 e).2⟩
    rw [List.mem_singleton.1 hg]
    simp only [List.mem_singleton]
    rintro e2
    rcases (H.own1 e).2 with e3 | e3
    · exact O.ibq (e2 ▸ e3)
    · omega
  · rw [upd_ne a3]; exact (hk.block _ (heap_lt H.hob) (by simpa using O.oib)).trans H.hob
  · rw [upd_ne a1]; exact fun e => ⟨(H.hbs e).1, (hk.block _ (heap_lt (H.hbs e).2) (by simpa using (O.fresh H e).1)).trans (H.hbs e).2⟩
theorem ApW.other (H : ApW C opB opA opS cnt W0 s l w) (O : ApOk C W0) (i : Nat) (hi : i ≠ opB ∧ i ≠ opA ∧ i ≠ opS) (hc : cnt (upd l i) = cnt l) : ApW C opB opA opS cnt W0 s (upd l i) w :=
  H.call O i hi (by rw [hc]; exact H.dr) (Keep.refl _ _)
theorem ApW.next (H : ApW C opB opA opS cnt W0 s l w) (O : ApOk C W0) (m : Int) (hm : 0 < m ∧ m ≤ 1000) :
    Calls Try.prog 70 #[.int .i64 m, .pointer (some ⟨C.ib, 0, none⟩), .pointer (some ⟨C.lb, 0, none⟩)] w (NextPost w C.ib C.lb C.A0 C.c0 C.l0 (C.k0 + cnt l) m) :=
  next_any C.ib C.lb C.A0 C.c0 C.l0 (C.k0 + cnt l) m w H.dr O.byt O.len O.ne (fun h0 b off e => (O.apart h0 b off e).1) hm
theorem ApW.build (H : ApW C opB opA opS cnt W0 s l w) (O : ApOk C W0) (hn : opB ≠ opA ∧ opB ≠ opS) (hc : cnt (upd l opB) = cnt l) : ApW C opB opA opS cnt W0 { s with bs := w.heap.size } (upd l opB) (w.alloc (.cells C.ys.toArray C.e)) := by
  refine ⟨H.kp.alloc _, ?_, ?_, ?_, ?_, fun _ => ⟨H.kp.size, heap_alloc_new _ _⟩⟩
  · rw [hc]; exact H.dr.keep (S := []) ((Keep.refl _ _).alloc _) (by simp) (by simp) (by simp)
  · rw [upd_ne hn.1]; exact fun e => (H.own0 e).alloc _
  · rw [upd_ne hn.1]; exact fun e => ⟨(H.own1 e).1.alloc _, (H.own1 e).2⟩
  · rw [upd_ne hn.2]; exact heap_alloc' H.hob _
theorem ApW.app (H : ApW C opB opA opS cnt W0 s l w) (O : ApOk C W0) (hn : opB ≠ opA ∧ opA ≠ opS) (hc : cnt (upd l opA) = cnt l) (h8 : l opB = true) (h9 : l opA = false) (h11 : l opS = false) {g c' : Nat} (o1 : OwnS w' C.e C.sz (some ⟨g, 0, none⟩) (C.k + 1) c' (C.xs ++ C.ys) [g]) (o2 : g ∈ C.q ∨ w.heap.size = g) (o3 : Keep C.q w w') :
    ApW C opB opA opS cnt W0 { s with A := some ⟨g, 0, none⟩, c := c', g := g } (upd l opA) w' := by
  have hh := H.hob
  rw [h11, if_neg (by simp)] at hh
  refine ⟨H.kp.trans o3 (fun x hx => .inl (by simp [hx])), ?_, ?_, ?_, ?_, ?_⟩
  · rw [hc]; exact H.dr.keep o3 O.ibq O.lbq (fun h0 b off e => (O.apart h0 b off e).2.2)
  · rw [upd_eq]; exact fun e => by cases e
  · exact fun _ => ⟨o1, by rcases o2 with e | e; exact .inl e; exact .inr (by have := H.kp.size; simp only; omega)⟩
  · rw [upd_ne hn.2, h11, if_neg (by simp)]; exact (o3.block _ (heap_lt hh) O.obq).trans hh
  · rw [upd_ne hn.1.symm]
    exact fun e => ⟨(H.hbs e).1, (o3.block _ (heap_lt (H.hbs e).2) (O.fresh H e).2.2.2).trans (H.hbs e).2⟩
theorem ApW.store (H : ApW C opB opA opS cnt W0 s l w) (O : ApOk C W0) (hn : opB ≠ opS ∧ opA ≠ opS) (hc : cnt (upd l opS) = cnt l) (j : Nat) (hnew : ∀ A c, C.new A c = C.old.setIfInBounds j (.slice A (C.k + 1) c)) (h9 : l opA = true) (h11 : l opS = false) :
    ApW C opB opA opS cnt W0 s (upd l opS) (w.setCell ⟨C.ob, j, none⟩ (.slice s.A (C.k + 1) s.c)) := by
  have hh := H.hob
  rw [h11, if_neg (by simp)] at hh
  have K : Keep [C.ob] w (w.setCell ⟨C.ob, j, none⟩ (.slice s.A (C.k + 1) s.c)) := (Keep.refl _ _).setCell (.inl (by simp)) _
  refine ⟨H.kp.setCell (.inl (by simp)) _, ?_, ?_, ?_, ?_, ?_⟩
  · rw [hc]; exact H.dr.keep K (by simpa using O.oib.symm) (by simpa using O.olb.symm) (fun h0 b off e => by simpa using (O.apart h0 b off e).2.1)
  · rw [upd_ne hn.2.symm, h9]; exact fun e => by cases e
  · rw [upd_ne hn.2.symm]
    refine fun e => ⟨(H.own1 e).1.keepS K (fun g hg => ?_), (H.own1 e).2⟩
    rw [List.mem_singleton.1 hg]
    simp only [List.mem_singleton]
    rintro e2
    rcases (H.own1 e).2 with e3 | e3
    · exact O.obq (e2 ▸ e3)
    · have := heap_lt O.hob; omega
  · rw [upd_eq, if_pos rfl, hnew]; exact heap_set hh j _
  · rw [upd_ne hn.1.symm]
    exact fun e => ⟨(H.hbs e).1, (K.block _ (heap_lt (H.hbs e).2) (by simpa using (O.fresh H e).2.2.1)).trans (H.hbs e).2⟩
/-- the append itself -/
theorem ApW.at_append {P : Program} {o : Oper} {a : Act} {K : Act → World → Prop} {Q : Exit → Act → World → Prop} (H : ApW C opB opA opS cnt W0 s l w) (O : ApOk C W0) (x y : Operand) (t : TypeId)
    (ho : o.op = .call { callee := .builtin .append, args := #[x, y], argTypes := #[t, t] })
    (i : TypeInfo) (z : Value) (bytes : Nat) (ht : P.underlying t = some (.slice C.e)) (hi : P.info? C.e = some i) (hz : i.zero = some z)
    (hsize : i.size = C.sz) (hs0 : 0 < C.sz) (hby : i.bytes = bytes) (hzs : z.cells.size = C.sz) (hs : a.eval x = .slice C.A C.k C.c) (hx : a.eval y = .slice (some ⟨s.bs, 0, none⟩) 1 1)
    (hys : C.ys.length = C.sz) (h1 : ∀ u ∈ C.ys, u.oneCell' = true) (hk : C.k + 1 ≤ 1000000000000) (hbytes : bytes ≤ 100) (hn : opB ≠ opA ∧ opA ≠ opS) (hc : cnt (upd l opA) = cnt l) (h8 : l opB = true) (h9 : l opA = false) (h11 : l opS = false)
    (h : ∀ g c' w', ApW C opB opA opS cnt W0 { s with A := some ⟨g, 0, none⟩, c := c', g := g } (upd l opA) w' → K (a.put o.dst (.slice (some ⟨g, 0, none⟩) (C.k + 1) c')) w') : o.wp P a w K Q := by
  have hbs := H.hbs h8
  refine wp_append_S x y t ho i z bytes ht hi hz hsize hs0 hby hzs hs ⟨s.bs, 0, none⟩ hx C.ys (H.own0 h9) hys (fun j v hj => by rw [show (⟨s.bs, 0, none⟩ : Addr).add j = ⟨s.bs, j, none⟩ from by simp [Addr.add]; omega]; exact (cell_of_heap hbs.2 j).trans (by simpa using hj)) h1 hk hbytes ?_
  intro g c' w' o1 o2 o3 o4
  exact h g c' w' (H.app O hn hc h8 h9 h11 o1 o2 o4)
end
end Go.Proofs.Ythmldeningpjbaa
/- How ports, plans and states of layer 9 lie in memory. No program's function is named here. -/
namespace Go.Proofs.Ythmldeningpjbaa
open Go Go.RowKit Sp Pt

theorem flat_get {T : Type} {f : T → List Value} {s : Nat} (hf : ∀ x, (f x).length = s) {l : List T} {k : Nat} (hk : k < l.length) {j : Nat} (hj : j < s) : (l.flatMap f)[k*s + j]? = (f l[k])[j]? := by
  induction l generalizing k with
  | nil => simp at hk
  | cons x l ih =>
    rw [List.flatMap_cons]
    cases k with
    | zero => rw [Nat.zero_mul, Nat.zero_add, List.getElem?_append_left (by rw [hf]; exact hj)]; rfl
    | succ k =>
      have e : (k+1)*s + j = s + (k*s + j) := by rw [Nat.add_mul]; omega
      rw [e, List.getElem?_append_right (by rw [hf]; omega), hf, Nat.add_sub_cancel_left]
      simpa using ih (k := k) (by simpa using hk)
theorem flat_len {T : Type} {f : T → List Value} {s : Nat} (hf : ∀ x, (f x).length = s) (l : List T) : (l.flatMap f).length = l.length * s := by
  induction l with
  | nil => simp
  | cons x l ih => rw [List.flatMap_cons, List.length_append, ih, hf, List.length_cons, Nat.add_mul]; omega
theorem flat_snoc {T : Type} (f : T → List Value) (l : List T) (x : T) : (l ++ [x]).flatMap f = l.flatMap f ++ f x := by simp

/-- as Rd, in a block below D -/
def RdB (D : Nat) (w : World) (size : Nat) (A : Option Addr) (n : Nat) (xs : List Value) : Prop :=
  xs.length = n * size ∧ (0 < n → ∃ b off, A = some ⟨b, off, none⟩ ∧ b < D ∧ ∀ j u, xs[j]? = some u → w.cell? ⟨b, off + j, none⟩ = some u)
section
variable {D : Nat} {w w' : World} {size n : Nat} {A : Option Addr} {xs : List Value}
theorem RdB.rd (h : RdB D w size A n xs) (hD : D ≤ w.heap.size) : Rd w size A n xs :=
  ⟨h.1, fun h0 => by obtain ⟨b, off, e, hb, hc⟩ := h.2 h0; exact ⟨b, off, e, by omega, hc⟩⟩
theorem RdB.of (h : Rd w size A n xs) (hD : w.heap.size ≤ D) : RdB D w size A n xs :=
  ⟨h.1, fun h0 => by obtain ⟨b, off, e, hb, hc⟩ := h.2 h0; exact ⟨b, off, e, by omega, hc⟩⟩
theorem RdB.below (h : RdB D w size A n xs) (hb : Below D w w') : RdB D w' size A n xs :=
  ⟨h.1, fun h0 => by obtain ⟨b, off, e, hl, hc⟩ := h.2 h0; exact ⟨b, off, e, hl, fun j u hu => (hb.cell (p := ⟨b, off + j, none⟩) hl).trans (hc j u hu)⟩⟩
theorem RdB.mono (h : RdB D w size A n xs) {D' : Nat} (hD : D ≤ D') : RdB D' w size A n xs :=
  ⟨h.1, fun h0 => by obtain ⟨b, off, e, hb, hc⟩ := h.2 h0; exact ⟨b, off, e, by omega, hc⟩⟩
end

def chc (c : Chn) : List Value := [.int .i64 c.grow, .int .i64 c.frost, .int .i64 c.clear]
abbrev chcs (l : List Chn) : List Value := l.flatMap chc
def cac (c : Cal) : List Value := [.int .i64 c.hour, .int .i64 c.berth, .bool c.out, .int .i64 c.draught, .int .i64 c.most, .int .i64 c.tugs]
abbrev cacs (l : List Cal) : List Value := l.flatMap cac
def swc (s : Swp) : List Value := [.int .i64 s.hour, .int .i64 s.channel, .int .i64 s.tugs]
abbrev swcs (l : List Swp) : List Value := l.flatMap swc
def mpc (m : Mp) : List Value := [.int .i64 m.add, .int .i64 m.floor, .int .i64 m.most]
def vsc (v : Vst) : List Value := [.int .i64 v.arr, .int .i64 v.last, .int .i64 v.stay, .int .i64 v.dra]
abbrev vscs (l : List Vst) : List Value := l.flatMap vsc
def plc (x : Plc) : List Value := [.int .i64 x.berth, .int .i64 x.start]
abbrev plcs (l : List Plc) : List Value := l.flatMap plc

theorem chcs_get {l : List Chn} {k : Nat} (hk : k < l.length) : (chcs l)[k*3]? = some (.int .i64 l[k].grow) ∧ (chcs l)[k*3+1]? = some (.int .i64 l[k].frost) ∧ (chcs l)[k*3+2]? = some (.int .i64 l[k].clear) :=
  ⟨flat_get (f := chc) (s := 3) (fun _ => rfl) hk (j := 0) (by decide), flat_get (f := chc) (s := 3) (fun _ => rfl) hk (j := 1) (by decide), flat_get (f := chc) (s := 3) (fun _ => rfl) hk (j := 2) (by decide)⟩
theorem cacs_get {l : List Cal} {k : Nat} (hk : k < l.length) : (cacs l)[k*6]? = some (.int .i64 l[k].hour) ∧ (cacs l)[k*6+1]? = some (.int .i64 l[k].berth) ∧ (cacs l)[k*6+2]? = some (.bool l[k].out) ∧ (cacs l)[k*6+3]? = some (.int .i64 l[k].draught) ∧ (cacs l)[k*6+4]? = some (.int .i64 l[k].most) ∧ (cacs l)[k*6+5]? = some (.int .i64 l[k].tugs) :=
  ⟨flat_get (f := cac) (s := 6) (fun _ => rfl) hk (j := 0) (by decide), flat_get (f := cac) (s := 6) (fun _ => rfl) hk (j := 1) (by decide), flat_get (f := cac) (s := 6) (fun _ => rfl) hk (j := 2) (by decide), flat_get (f := cac) (s := 6) (fun _ => rfl) hk (j := 3) (by decide), flat_get (f := cac) (s := 6) (fun _ => rfl) hk (j := 4) (by decide), flat_get (f := cac) (s := 6) (fun _ => rfl) hk (j := 5) (by decide)⟩
theorem swcs_get {l : List Swp} {k : Nat} (hk : k < l.length) : (swcs l)[k*3]? = some (.int .i64 l[k].hour) ∧ (swcs l)[k*3+1]? = some (.int .i64 l[k].channel) ∧ (swcs l)[k*3+2]? = some (.int .i64 l[k].tugs) :=
  ⟨flat_get (f := swc) (s := 3) (fun _ => rfl) hk (j := 0) (by decide), flat_get (f := swc) (s := 3) (fun _ => rfl) hk (j := 1) (by decide), flat_get (f := swc) (s := 3) (fun _ => rfl) hk (j := 2) (by decide)⟩
theorem vscs_get {l : List Vst} {k : Nat} (hk : k < l.length) : (vscs l)[k*4]? = some (.int .i64 l[k].arr) ∧ (vscs l)[k*4+1]? = some (.int .i64 l[k].last) ∧ (vscs l)[k*4+2]? = some (.int .i64 l[k].stay) ∧ (vscs l)[k*4+3]? = some (.int .i64 l[k].dra) :=
  ⟨flat_get (f := vsc) (s := 4) (fun _ => rfl) hk (j := 0) (by decide), flat_get (f := vsc) (s := 4) (fun _ => rfl) hk (j := 1) (by decide), flat_get (f := vsc) (s := 4) (fun _ => rfl) hk (j := 2) (by decide), flat_get (f := vsc) (s := 4) (fun _ => rfl) hk (j := 3) (by decide)⟩
theorem plcs_get {l : List Plc} {k : Nat} (hk : k < l.length) : (plcs l)[k*2]? = some (.int .i64 l[k].berth) ∧ (plcs l)[k*2+1]? = some (.int .i64 l[k].start) :=
  ⟨flat_get (f := plc) (s := 2) (fun _ => rfl) hk (j := 0) (by decide), flat_get (f := plc) (s := 2) (fun _ => rfl) hk (j := 1) (by decide)⟩

/-- a berth's path: where it lies -/
def PathB (D : Nat) (w : World) (A : Option Addr) (c : Nat) (l : List Int) : Prop := RdB D w 1 A l.length (ints l) ∧ l.length ≤ c ∧ c ≤ 9223372036854775807 ∧ (A = none → c = 0)
/-- berths -/
def BtsB (D : Nat) (w : World) (A : Option Addr) (l : List Brt) : Prop :=
  ∀ (k : Nat) (hk : k < l.length), ∃ b off Ak ck, A = some ⟨b, off, none⟩ ∧ b < D ∧ w.cell? ⟨b, off + k*2, none⟩ = some (.int .i64 l[k].depth) ∧ w.cell? ⟨b, off + k*2 + 1, none⟩ = some (.slice Ak l[k].path.length ck) ∧ PathB D w Ak ck l[k].path
section
variable {D : Nat} {w w' : World} {A : Option Addr}
theorem PathB.below {c : Nat} {l : List Int} (h : PathB D w A c l) (hb : Below D w w') : PathB D w' A c l := ⟨h.1.below hb, h.2⟩
theorem PathB.mono {c : Nat} {l : List Int} (h : PathB D w A c l) {D' : Nat} (hD : D ≤ D') : PathB D' w A c l := ⟨h.1.mono hD, h.2⟩
theorem BtsB.below {l : List Brt} (h : BtsB D w A l) (hb : Below D w w') : BtsB D w' A l := by
  intro k hk
  obtain ⟨b, off, Ak, ck, e, hlt, h1, h2, h3⟩ := h k hk
  exact ⟨b, off, Ak, ck, e, hlt, (hb.cell (p := ⟨b, off + k*2, none⟩) hlt).trans h1, (hb.cell (p := ⟨b, off + k*2 + 1, none⟩) hlt).trans h2, h3.below hb⟩
theorem BtsB.mono {l : List Brt} (h : BtsB D w A l) {D' : Nat} (hD : D ≤ D') : BtsB D' w A l := by
  intro k hk
  obtain ⟨b, off, Ak, ck, e, hlt, h1, h2, h3⟩ := h k hk
  exact ⟨b, off, Ak, ck, e, by omega, h1, h2, h3.mono hD⟩
end

/-- a port's value -/
abbrev prtV (Ac : Option Addr) (cc : Nat) (Ab : Option Addr) (cb : Nat) (p : Prt) : Array Value := #[.slice Ac p.chs.length cc, .slice Ab p.bts.length cb, .int .i64 p.tugs]
structure PrtB (D : Nat) (w : World) (Ac : Option Addr) (cc : Nat) (Ab : Option Addr) (cb : Nat) (p : Prt) : Prop where
  chs : RdB D w 3 Ac p.chs.length (chcs p.chs)
  bts : BtsB D w Ab p.bts
  c1 : p.chs.length ≤ cc ∧ cc ≤ 9223372036854775807 ∧ (Ac = none → cc = 0)
  c2 : p.bts.length ≤ cb ∧ cb ≤ 9223372036854775807 ∧ (Ab = none → cb = 0)
/-- a plan's value -/
abbrev plnV (Al : Option Addr) (cl : Nat) (As : Option Addr) (cs : Nat) (l : Pln) : Array Value := #[.int .i64 l.hours, .slice Al l.calls.length cl, .slice As l.swps.length cs]
structure PlnB (D : Nat) (w : World) (Al : Option Addr) (cl : Nat) (As : Option Addr) (cs : Nat) (l : Pln) : Prop where
  calls : RdB D w 6 Al l.calls.length (cacs l.calls)
  swps : RdB D w 3 As l.swps.length (swcs l.swps)
  c1 : l.calls.length ≤ cl ∧ cl ≤ 9223372036854775807 ∧ (Al = none → cl = 0)
  c2 : l.swps.length ≤ cs ∧ cs ≤ 9223372036854775807 ∧ (As = none → cs = 0)
section
variable {D : Nat} {w w' : World} {Ac Ab Al As : Option Addr} {cc cb cl cs : Nat} {p : Prt} {l : Pln}
theorem PrtB.below (h : PrtB D w Ac cc Ab cb p) (hb : Below D w w') : PrtB D w' Ac cc Ab cb p := ⟨h.chs.below hb, h.bts.below hb, h.c1, h.c2⟩
theorem PrtB.mono (h : PrtB D w Ac cc Ab cb p) {D' : Nat} (hD : D ≤ D') : PrtB D' w Ac cc Ab cb p := ⟨h.chs.mono hD, h.bts.mono hD, h.c1, h.c2⟩
theorem PlnB.below (h : PlnB D w Al cl As cs l) (hb : Below D w w') : PlnB D w' Al cl As cs l := ⟨h.calls.below hb, h.swps.below hb, h.c1, h.c2⟩
theorem PlnB.mono (h : PlnB D w Al cl As cs l) {D' : Nat} (hD : D ≤ D') : PlnB D' w Al cl As cs l := ⟨h.calls.mono hD, h.swps.mono hD, h.c1, h.c2⟩
end
theorem Below.down {w w' : World} {B B' : Nat} (h : Below B w w') (hB : B' ≤ B) : Below B' w w' := h.mono hB
end Go.Proofs.Ythmldeningpjbaa
