/- polynyalaw08.past: a history of numbers -/
import Derived.Test.YtfmhlnfcbbpfeaaRCp0
import Derived.Test.YtfmhlnfcbbpfeaaRCp7
import Derived.Deep.RegionHeld3
import Derived.IntWalk
import Derived.Test.YtfmhlnfcbbpfeaaRCp24
import Derived.Test.YtfmhlnfcbbpfeaaRCp25
import Derived.Test.YtfmhlnfcbbpfeaaRCp8
import Derived.Test.YtfmhlnfcbbpfeaaRCp10
set_option linter.unusedVariables false
namespace Go.Proofs.Ytfmhlnfcbbpfeaa
open Go Go.RowKit Sp
set_option linter.unusedVariables false

def DaysOk (l : List Int) : Prop := ∀ x ∈ l, 0 ≤ x ∧ x ≤ 2000
def PastPost' (w : World) (e : Ending) (w' : World) : Prop :=
  ∃ A c days q, e = .returned (.slice A days.length c) ∧ OwnA w' 3 A days.length c (ints days) q ∧ DaysOk days ∧ days.length ≤ 90 ∧ Below w.heap.size w w'
def PastPost (w : World) (e : Ending) (w' : World) : Prop :=
  ∃ A c days, e = .returned (.slice A days.length c) ∧ Rd w' 1 A days.length (ints days) ∧ DaysOk days ∧ days.length ≤ 90 ∧ days.length ≤ c ∧ c ≤ 9223372036854775807 ∧ Below w.heap.size w w'

structure PastSt (w0 wr : World) (A : Option Addr) (n c : Nat) (days : List Int) (q : List Nat) : Prop where
  own : OwnA wr 3 A n c (ints days) q
  new_ : ∀ g ∈ q, w0.heap.size ≤ g
  keep : Keep [] w0 wr
  ok : DaysOk days

set_option maxRecDepth 100000 in
set_option maxHeartbeats 2000000 in
theorem past_own (A : Option Addr) (c : Nat) (l : List Int) (w : World) (hr : Rd w 1 A l.length (byts l)) (hl : Bytes l) (hm : l.length ≤ 9223372036854775800) :
    Calls Try.prog 14 #[.slice A l.length c] w (PastPost' w) := by
  obtain ⟨i0, hi, hz0, hz1, hz2⟩ := info_parts info_int
  have HR := Lib.hid (And.intro hr hl)
  clear hr hl
  go_enter Try.func14, Try.ntmps14
  go_wp2_with fail
  go_loopw [3, 4] (fun o i wr => ∃ (k : Nat) (Ao : Option Addr) (n co : Nat) (days : List Int) (q : List Nat), k ≤ l.length + 1 ∧ i = .int .i64 k ∧ o = .slice Ao n co ∧ n ≤ 84 ∧ PastSt w wr Ao n co days q)
    (fun _ i _ => l.length + 2 - (intOf i).toNat)
  case atStart => exact ⟨0, none, 0, 0, [], [], Nat.zero_le _, rfl, rfl, by omega, OwnA.nil _ _, by simp, Keep.refl _ _, by simp [DaysOk]⟩
  case round =>
    obtain ⟨k, Ao, n, co, days, q, hk, rfl, rfl, hn, hst⟩ := hrel
    have HST := Lib.hid hst
    clear hst
    by_cases hlt : k + 1 < l.length
    · by_cases h80 : n < 80
      · obtain ⟨b, off, rfl, hb, hc⟩ := HR.out.1.2 (by omega)
        have hb' : b < w.heap.size := hb
        obtain ⟨x, hx⟩ : ∃ x, x = l.getD k 0 := ⟨_, rfl⟩
        obtain ⟨y, hy⟩ : ∃ y, y = l.getD (k + 1) 0 := ⟨_, rfl⟩
        have c0 : w.cell? ⟨b, off + k, none⟩ = some (.int .u8 x) := by rw [hx]; exact hc _ _ (byts_get (by omega))
        have c1 : w.cell? ⟨b, off + (k + 1), none⟩ = some (.int .u8 y) := by rw [hy]; exact hc _ _ (byts_get (by omega))
        have xr := HR.out.2.get k
        have yr := HR.out.2.get (k + 1)
        rw [← hx] at xr
        rw [← hy] at yr
        have d0 : wr.cell? ⟨b, off + k, none⟩ = some (.int .u8 x) := HST.out.keep.cell c0 (by simp)
        have HC := Lib.hid (And.intro c0 c1)
        clear hc hx hy c0 c1
        have hd80 : decide ((n : Int) < 80) = true := by simp; omega
        obtain ⟨wo, rfl⟩ : ∃ wo : World, wo = wr := ⟨_, rfl⟩
        go_wp2_with fail
        obtain ⟨R, hR⟩ : ∃ R : Nat, 1 + x % 5 = (R : Int) := ⟨(1 + x % 5).toNat, by omega⟩
        have hR5 : R ≤ 5 := by omega
        rw [hR]
        have HRR := Lib.hid hR
        clear hR d0
        go_loopw [3, 23] (fun o r wr => ∃ (j : Nat) (Ao : Option Addr) (m co : Nat) (days : List Int) (q : List Nat), j ≤ R ∧ r = .int .u8 j ∧ o = .slice Ao m co ∧ m = n + j ∧ PastSt w wr Ao m co days q)
          (fun _ r _ => R - (intOf r).toNat)
        case atStart => exact ⟨0, Ao, n, co, days, q, Nat.zero_le _, rfl, rfl, by omega, HST.out⟩
        case round =>
          obtain ⟨j, Ap, m, cp, days', q', hj, rfl, rfl, hmn, hst'⟩ := hrel
          have HS2 := Lib.hid hst'
          clear hst'
          have hmn' : m ≤ 90 := by omega
          have HM := Lib.hid hmn
          clear hmn
          by_cases hlt2 : j < R
          · have e0 : wr.cell? ⟨b, off + k, none⟩ = some (.int .u8 x) := HS2.out.keep.cell HC.out.1 (by simp)
            have e1 : wr.cell? ⟨b, off + (k + 1), none⟩ = some (.int .u8 y) := HS2.out.keep.cell HC.out.2 (by simp)
            have nb : b ∉ q' := fun hm => by have := HS2.out.new_ b hm; omega
            have KC : ∀ {o : Nat} {u : Value}, wr.cell? ⟨b, o, none⟩ = some u → ∀ w', Keep q' wr w' → w'.cell? ⟨b, o, none⟩ = some u := fun h w' hk => hk.cell h nb
            have e0' := KC e0
            have e1' := KC e1
            have w1 : IntKind.i64.wrap ((k : Int) + 1) = (k : Int) + 1 := IntWalk.i64_in _ (by omega)
            have w2 : IntKind.i64.wrap (2 * y) = 2 * y := IntWalk.i64_in _ (by omega)
            have w3 : IntKind.i64.wrap (2 * y + x / 5) = 2 * y + x / 5 := IntWalk.i64_in _ (by omega)
            have w4 : IntKind.i64.wrap x = x := IntWalk.i64_in _ (by omega)
            have w5 : IntKind.i64.wrap y = y := IntWalk.i64_in _ (by omega)
            have w6 : x.tdiv 5 = x / 5 := Int.tdiv_eq_ediv_of_nonneg (by omega)
            have w7 : IntKind.i64.wrap (x / 5) = x / 5 := IntWalk.i64_in _ (by omega)
            have n1 : (0 : Int) ≤ (k : Int) + 1 := by omega
            have n2 : ((k : Int) + 1).toNat = k + 1 := by omega
            have n3 : (k : Int) + 1 < (l.length : Int) := by omega
            have n4 : (k : Int) < (l.length : Int) := by omega
            have HN := Lib.hid nb
            clear nb KC e0 e1
            go_upto_region 7 with fail
            go_region_held3 (fun w' => Keep q' wr w') (first | exact (Keep.refl _ _).drew | assumption | exact ((Keep.refl _ _).drew).alloc _)
              (first
                | (refine step_append_A rfl (.tmp 25) (.tmp 40) 27 rfl i0 _ 8 Try.underlying27 hi hz0 hz1 hz2 rfl (A := Ap) (n := m) (c := cp) (xs := ints days') (fp := q') (by simp [Act.eval]) _ (by simp [Act.eval]) (.int .i64 (2 * y + x / 5)) ((HS2.out.own.keepS ((Keep.refl [] wr).drew) (by simp)).alloc _) (cell_new_one _ _ _) rfl (by omega) (by omega) ?_
                   intro g off' c' wz h1 h2 h3 h4
                   have HQ := Lib.hid (And.intro h1 (And.intro h2 h4))
                   have K3 : Keep q' wr wz := (((Keep.refl q' wr).drew).alloc _).trans h4 (fun y hy => .inl hy)
                   clear h1 h2 h3 h4))
            go_wp2_with fail
            go_roundw
            case measure => simp [intOf]; omega
            case rel =>
              obtain ⟨h1, h2, h4⟩ := HQ.out
              refine ⟨j + 1, some ⟨g, off', none⟩, m + 1, c', days' ++ [2 * y + x / 5], [g], by omega, by go_num, rfl, by have := HM.out; omega, ?_, ?_, ?_, ?_⟩
              · simpa [ints] using h1
              · intro z hz
                rw [List.mem_singleton.1 hz]
                rcases h2 with h2 | h2
                · exact HS2.out.new_ _ h2
                · have := HS2.out.keep.size; simp at h2; omega
              · exact HS2.out.keep.trans K3 (fun z hz => .inr (HS2.out.new_ z hz))
              · intro z hz
                rcases List.mem_append.1 hz with h | h
                · exact HS2.out.ok z h
                · rw [List.mem_singleton.1 h]; omega
          · obtain rfl : j = R := by omega
            go_wp2_with fail
            go_roundw
            case measure => simp [intOf]; omega
            case rel => exact ⟨k + 2, Ap, m, cp, days', q', by omega, by go_num, rfl, by have := HM.out; omega, HS2.out⟩
      · go_wp2_with fail
        go_ret
        have hl : days.length = n := by have := HST.out.own.1; simpa [ints] using this
        exact ⟨Ao, co, days, q, by rw [hl]; rfl, by rw [hl]; exact HST.out.own, HST.out.ok, by omega, HST.out.keep.below (Nat.le_refl _) (by simp)⟩
    · go_wp2_with fail
      go_ret
      have hl : days.length = n := by have := HST.out.own.1; simpa [ints] using this
      exact ⟨Ao, co, days, q, by rw [hl]; rfl, by rw [hl]; exact HST.out.own, HST.out.ok, by omega, HST.out.keep.below (Nat.le_refl _) (by simp)⟩

theorem past_any (A : Option Addr) (c : Nat) (l : List Int) (w : World) (hr : Rd w 1 A l.length (byts l)) (hl : Bytes l) (hm : l.length ≤ 9223372036854775800) :
    Calls Try.prog 14 #[.slice A l.length c] w (PastPost w) := by
  refine (past_own A c l w hr hl hm).mono ?_
  rintro e w' ⟨A, c, days, q, rfl, h1, h2, h3, h4⟩
  exact ⟨A, c, days, rfl, h1.rd, h2, h3, h1.ge, h1.cap, h4⟩
theorem OwnA.nil_cap {w : World} {e : TypeId} {A : Option Addr} {n c : Nat} {xs : List Value} {fp : List Nat} (h : OwnA w e A n c xs fp) (hA : A = none) : c = 0 ∧ n = 0 := by
  rcases h.2 with ⟨_, h1, h2, _⟩ | ⟨g, off, cur, h1, _⟩
  · exact ⟨h2, h1⟩
  · rw [hA] at h1; cases h1
end Go.Proofs.Ytfmhlnfcbbpfeaa
/- Plain law of RestrictReviewed; what Made makes is a right policy. -/
namespace Go.Proofs.Ytfmhlnfcbbpfeaa
open Sp

theorem made_get {l : List Int} {n k : Nat} (h : k < n) : (madeSteps l n).getD k default = madeStp l k := by simp [madeSteps, h]
theorem made_check (l : List Int) {g : Int} (hg : 0 ≤ g ∧ g ≤ 60) : checkS { madeP l with grace := g } = 0 := by
  have d0 := draw_range (l := l) 0 (n := 5) (by decide)
  have d1 := draw_range (l := l) 1 (n := 6) (by decide)
  have d2 := draw_range (l := l) 2 (n := 5) (by decide)
  have d4 := draw_range (l := l) 4 (n := 6) (by decide)
  obtain ⟨n, hn⟩ : ∃ n, n = 1 + (draw l 4 6).toNat := ⟨_, rfl⟩
  have hs : (madeP l).steps = madeSteps l n := by rw [hn]; rfl
  have hn6 : 1 ≤ n ∧ n ≤ 6 := by omega
  refine check_yes (p := { madeP l with grace := g }) ?_ ?_ ?_
  · show within ((madeP l).steps.length : Int) 1 8 = true
    rw [hs, madeSteps_length]; simp [within]; omega
  · simp only [badGlob]
    rw [hs]
    have h0 : (madeSteps l n).headD default = ⟨0, 0, 0, 0⟩ := by
      have := made_get (l := l) (n := n) (k := 0) (by omega)
      cases h : madeSteps l n with
      | nil => have := madeSteps_length l n; rw [h] at this; simp at this; omega
      | cons a t => rw [h] at this; simpa [madeStp] using this
    have w1 : within (1 + draw l 0 5) 1 30 = true := by simp [within]; omega
    have w2 : within (1 + draw l 1 6) 1 30 = true := by simp [within]; omega
    have w3 : within (draw l 2 5) 0 30 = true := by simp [within]; omega
    have w4 : within g 0 60 = true := by simp [within]; omega
    rw [h0]
    simp only [madeP, w1, w2, w3, w4]
    rfl
  · show stepsOkN (madeP l).steps (madeP l).steps.length = true
    rw [hs, madeSteps_length]
    have all : ∀ k, k ≤ n → stepsOkN (madeSteps l n) k = true := by
      intro k
      induction k with
      | zero => intro _; rfl
      | succ k ih =>
        intro hk
        refine stepsOkN_succ (ih (by omega)) ?_
        have bd := madeStp_bd l k
        have e1 := made_get (l := l) (n := n) (k := k) (by omega)
        have gs : goodStep (madeStp l k) = true := by
          refine goodStep_mk ?_ ?_ ?_ ?_ <;> simp [within] <;> omega
        rcases Nat.eq_zero_or_pos k with h0 | h0
        · subst h0
          exact goodAt_zero e1.symm gs
        · obtain ⟨j, rfl⟩ : ∃ j, k = j + 1 := ⟨k - 1, by omega⟩
          have e2 := made_get (l := l) (n := n) (k := j) (by omega)
          have r0 := draw_range (l := l) (5 + 4 * j) (n := 3) (by decide)
          have r1 := draw_range (l := l) (5 + 4 * j + 1) (n := 8) (by decide)
          have r2 := draw_range (l := l) (5 + 4 * j + 2) (n := 120) (by decide)
          have r3 := draw_range (l := l) (5 + 4 * j + 3) (n := 100) (by decide)
          have bd' := madeStp_bd l j
          refine goodAt_succ (b := madeStp l j) e1.symm (by simpa using e2.symm) gs (goodPair_mk ?_ ?_ ?_ ?_) <;> simp only [madeStp, nextStp] <;> omega
    exact all n (Nat.le_refl _)
theorem made_check' (l : List Int) : checkS (madeP l) = 0 := by
  have d3 := draw_range (l := l) 3 (n := 6) (by decide)
  exact made_check l (g := (madeP l).grace) (by simp only [madeP]; omega)
theorem start_zero {p : Pol} {days : List Int} (h : checkS p = 0) (hd : DaysOk days) (hl : days.length ≤ 400) : startS p days = 0 := by
  unfold startS
  rw [if_neg (fun f => f h), if_neg (by omega), if_neg]
  intro ha
  rw [List.any_eq_true] at ha
  obtain ⟨x, hx, h2⟩ := ha
  have := hd x hx
  simp [within] at h2
  omega

theorem idxL_head {t : Bool} {l : List Bool} (h : l.getD 0 (!t) = t) : idxL t l = 0 := by
  cases l with
  | nil => cases t <;> simp at h
  | cons x l => simp at h; subst h; simp [idxL]
theorem idxL_ne {t : Bool} {l : List Bool} (h : l.getD 0 (!t) ≠ t) : idxL t l ≠ 0 := by
  cases l with
  | nil => simp [idxL]
  | cons x l =>
    simp at h
    rw [idxL, if_neg (fun e => h e.symm)]
    have := idxL_range t l
    split <;> omega
theorem idxL_take {t : Bool} {l : List Bool} {n : Nat} : idxL t (l.take n) = -1 ∨ idxL t (l.take n) = idxL t l := by
  induction l generalizing n with
  | nil => simp
  | cons x l ih =>
    cases n with
    | zero => left; rfl
    | succ n =>
      rw [List.take_succ_cons, idxL, idxL]
      by_cases hx : t = x
      · rw [if_pos hx, if_pos hx]; exact .inr rfl
      · rw [if_neg hx, if_neg hx]
        rcases ih (n := n) with h | h
        · left; rw [if_pos h]
        · rw [h]; exact .inr rfl

/-- the days of a passage -/
def cutL (l : List Bool) (a z : Nat) : List Bool := (l.drop a).take (z + 1 - a)
theorem cutL_first {l : List Bool} {a z : Nat} (h : a < l.length) (hz : a ≤ z) (d : Bool) : (cutL l a z).getD 0 d = l.getD a false := by
  have h1 : 0 < (cutL l a z).length := by simp [cutL]; omega
  rw [List.getD_eq_getElem?_getD, List.getElem?_eq_getElem h1, List.getD_eq_getElem?_getD, List.getElem?_eq_getElem h]
  simp [cutL]
theorem cutL_sub {l : List Bool} {a y z : Nat} (hy : y ≤ z) : cutL l a y = (cutL l a z).take (y + 1 - a) := by
  simp only [cutL, List.take_take]; congr 1; omega

theorem outcome_eq (p : Pol) (days : List Int) (v : Ves) (a z : Nat) : outcome p days ⟨v, a, z⟩ = if idxL false (cutL (passesS p days v) a z) = 0 then 1 else if 0 < idxL false (cutL (passesS p days v) a z) ∧ (a : Int) + idxL false (cutL (passesS p days v) a z) + p.grace < z then 2 else 0 := by
  have e : ((z : Int) + 1 - (a : Int)).toNat = z + 1 - a := by omega
  unfold outcome cutL
  simp only [e, Int.toNat_natCast]
theorem grace_passes (p : Pol) (days : List Int) (v : Ves) (g : Int) : passesS { p with grace := g } days v = passesS p days v := rfl

theorem law_not {p : Pol} {days : List Int} {v : Ves} {a z : Nat} (ha : a < days.length) (hz : a ≤ z) (h : (passesS p days v).getD a false = false) : outcome p days ⟨v, a, z⟩ = 1 := by
  rw [outcome_eq, if_pos]
  refine idxL_head ?_
  rw [cutL_first (by rw [passesS_length]; exact ha) hz, h]
theorem law_yes {p : Pol} {days : List Int} {v : Ves} {a z : Nat} (ha : a < days.length) (hz : a ≤ z) (h : (passesS p days v).getD a false = true) : outcome p days ⟨v, a, z⟩ ≠ 1 := by
  have : idxL false (cutL (passesS p days v) a z) ≠ 0 := by
    refine idxL_ne ?_
    rw [cutL_first (by rw [passesS_length]; exact ha) hz, h]; simp
  rw [outcome_eq, if_neg this]
  split <;> omega
theorem law_range (p : Pol) (days : List Int) (v : Ves) (a z : Nat) : outcome p days ⟨v, a, z⟩ = 0 ∨ outcome p days ⟨v, a, z⟩ = 1 ∨ outcome p days ⟨v, a, z⟩ = 2 := by
  rw [outcome_eq]
  split
  · exact .inr (.inl rfl)
  · split
    · exact .inr (.inr rfl)
    · exact .inl rfl
theorem law_one {p : Pol} {days : List Int} {v : Ves} {a : Nat} (ha : a < days.length) (h : (passesS p days v).getD a false = true) (hg : 0 ≤ p.grace) : outcome p days ⟨v, a, a⟩ = 0 := by
  have h1 := law_yes ha (Nat.le_refl a) h
  rcases law_range p days v a a with h2 | h2 | h2
  · exact h2
  · exact absurd h2 h1
  · exfalso
    rw [outcome_eq] at h2
    split at h2
    · omega
    · split at h2
      · omega
      · omega
theorem law_shorter {p : Pol} {days : List Int} {v : Ves} {a y z : Nat} (_ : a < days.length) (_ : a ≤ y) (hz : y ≤ z) (h : outcome p days ⟨v, a, z⟩ = 0) : outcome p days ⟨v, a, y⟩ = 0 := by
  rw [outcome_eq] at h ⊢
  rw [cutL_sub hz]
  obtain ⟨f, hf⟩ : ∃ f, f = idxL false (cutL (passesS p days v) a z) := ⟨_, rfl⟩
  rw [← hf] at h
  have hr := idxL_range false (cutL (passesS p days v) a z)
  rw [← hf] at hr
  rcases idxL_take (t := false) (l := cutL (passesS p days v) a z) (n := y + 1 - a) with e | e
  · rw [e]; simp
  · rw [e, ← hf]
    split at h
    · omega
    · rename_i h0
      split at h
      · omega
      · rename_i h1
        rw [if_neg h0, if_neg (by omega)]
theorem law_grace {p : Pol} {days : List Int} {v : Ves} {a z : Nat} {g : Int} (hg : p.grace ≤ g) (h : outcome p days ⟨v, a, z⟩ = 0) : outcome { p with grace := g } days ⟨v, a, z⟩ = 0 := by
  rw [outcome_eq] at h ⊢
  rw [grace_passes]
  split at h
  · omega
  · rename_i h0
    split at h
    · omega
    · rename_i h1
      rw [if_neg h0, if_neg (by simp only; omega)]
end Go.Proofs.Ytfmhlnfcbbpfeaa
/- Example, winter, awake -/
namespace Go.Proofs.Ytfmhlnfcbbpfeaa
open Go Go.RowKit Sp

def exP : Pol := ⟨[⟨0, 0, 0, 0⟩, ⟨1, 2000, 100, 60⟩, ⟨3, 2000, 200, 150⟩], 2, 3, 1, 2⟩
def exD : List Int := [120, 130, 210, 220, 90, 50, 40, 30, 20]

theorem rd_lit (w : World) (size n : Nat) (cs : List Value) (t : TypeId) (h : cs.length = n * size) : Rd (w.alloc (.cells cs.toArray t)) size (some ⟨w.heap.size, 0, none⟩) n cs :=
  ⟨h, fun _ => ⟨_, 0, rfl, by simp, fun j u hu => by rw [Nat.zero_add, World.cell?_alloc_new]; simpa using hu⟩⟩

theorem Example_any (w : World) :
    Calls Try.prog 79 #[] w fun e w' => ∃ b, e = .returned (.agg #[.slice (some ⟨b, 0, none⟩) 3 3, .int .i64 2, .int .i64 3, .int .i64 1, .int .i64 2]) ∧ PolV w' (some ⟨b, 0, none⟩) 3 exP ∧ Below w.heap.size w w' := by
  go_enter Try.func79, Try.ntmps79
  go_wp2_with fail
  have hb : Below w.heap.size w ((w.alloc (.cells #[.slice (some ⟨w.heap.size + 1, 0, none⟩) 3 3, .int .i64 2, .int .i64 3, .int .i64 1, .int .i64 2] 25)).alloc (.cells (stcs exP.steps).toArray 74)) := ((Below.refl _ _).alloc (Nat.le_refl _) _).alloc (by simp) _
  have hr := rd_lit (w.alloc (.cells #[.slice (some ⟨w.heap.size + 1, 0, none⟩) 3 3, .int .i64 2, .int .i64 3, .int .i64 1, .int .i64 2] 25)) 4 3 (stcs exP.steps) 74 rfl
  rw [World.size_alloc] at hr
  have k : ∀ j u, (#[Value.slice (some ⟨w.heap.size + 1, 0, none⟩) 3 3, .int .i64 2, .int .i64 3, .int .i64 1, .int .i64 2] : Array Value)[j]? = some u → ((w.alloc (.cells #[.slice (some ⟨w.heap.size + 1, 0, none⟩) 3 3, .int .i64 2, .int .i64 3, .int .i64 1, .int .i64 2] 25)).alloc (.cells #[.int .i64 0, .int .i64 0, .int .i64 0, .int .i64 0, .int .i64 1, .int .i64 2000, .int .i64 100, .int .i64 60, .int .i64 3, .int .i64 2000, .int .i64 200, .int .i64 150] 74)).cell? ⟨w.heap.size, j, none⟩ = some u := fun j u hu => by
    rw [World.cell?_alloc_lt _ _ _ (by simp), World.cell?_alloc_new]; exact hu
  have k0 := k 0 _ rfl
  have k1 := k 1 _ rfl
  have k2 := k 2 _ rfl
  have k3 := k 3 _ rfl
  have k4 := k 4 _ rfl
  refine bodyPost_ret (v := .agg #[.slice (some ⟨w.heap.size + 1, 0, none⟩) 3 3, .int .i64 2, .int .i64 3, .int .i64 1, .int .i64 2]) (by simp [results, Try.results79, go_sem, k0, k1, k2, k3, k4]) rfl ?_
  exact ⟨_, rfl, ⟨by simp [exP], by simp [maxLen], hr⟩, hb⟩

theorem winter_any (w : World) :
    Calls Try.prog 80 #[] w fun e w' => ∃ b, e = .returned (.slice (some ⟨b, 0, none⟩) 9 9) ∧ Rd w' 1 (some ⟨b, 0, none⟩) 9 (ints exD) ∧ Below w.heap.size w w' := by
  go_enter Try.func80, Try.ntmps80
  go_wp2_with fail
  go_ret
  exact ⟨_, rfl, rd_lit w 1 9 (ints exD) 3 rfl, (Below.refl _ _).alloc (Nat.le_refl _) _⟩
end Go.Proofs.Ytfmhlnfcbbpfeaa
/- the chapter's example: what each function answers -/
namespace Go.Proofs.Ytfmhlnfcbbpfeaa
open Go Go.RowKit Sp

def exPs : List Psg := [⟨⟨1, 2500, true⟩, 3, 6⟩, ⟨⟨1, 2500, true⟩, 3, 7⟩, ⟨⟨1, 2500, true⟩, 4, 4⟩]
set_option maxRecDepth 100000
theorem ex_start : startS exP exD = 0 := by decide +kernel
theorem ex_dec : decidedS exP exD = [0, 1, 1, 2, 2, 2, 1, 0, 0] := by decide +kernel
theorem ex_force : forceS exP exD = [0, 0, 1, 1, 2, 2, 1, 0, 0] := by decide +kernel
theorem ex_ord : ordersS exP exD = [⟨1, 2, 1⟩, ⟨3, 4, 2⟩, ⟨6, 6, 1⟩, ⟨7, 7, 0⟩] := by decide +kernel
theorem ex_wit : witR exP exD 5 = (0, 2, 3) := by decide +kernel
theorem ex_ask : askS exP exD ⟨1, 2500, false⟩ = 0 := by decide +kernel
theorem ex_win : windowsS exP exD ⟨1, 2500, false⟩ = [(0, 3), (6, 8)] := by decide +kernel
theorem ex_revE : reviewE exP exD exPs = 0 := by decide +kernel
theorem ex_rev : reviewS exP exD exPs = [0, 2, 1] := by decide +kernel

/-- Example's policy as a value -/
def exV (b : Nat) : Value := .agg #[.slice (some ⟨b, 0, none⟩) 3 3, .int .i64 2, .int .i64 3, .int .i64 1, .int .i64 2]

section
variable (ba bb : Nat) (w : World) (hp : PolV w (some ⟨ba, 0, none⟩) 3 exP) (hd : Rd w 1 (some ⟨bb, 0, none⟩) 9 (ints exD))
include hp hd
theorem dec_ex : Calls Try.prog 19 #[.agg #[.slice (some ⟨ba, 0, none⟩) 3 3, .int .i64 2, .int .i64 3, .int .i64 1, .int .i64 2], .slice (some ⟨bb, 0, none⟩) 9 9] w
    fun e w' => ∃ A c, e = .returned (.tuple #[.slice A 9 c, .int .i64 0]) ∧ Rd w' 1 A 9 (ints [0, 1, 1, 2, 2, 2, 1, 0, 0]) ∧ Below w.heap.size w w' := by
  refine (Decided_any (some ⟨ba, 0, none⟩) 3 exP (some ⟨bb, 0, none⟩) 9 exD w hp hd (by decide)).mono ?_
  rintro e w' ⟨A, c, rfl, h1, h2⟩
  rw [if_pos ex_start, ex_dec] at *
  exact ⟨A, c, by rw [ex_start]; rfl, h1.1, h2⟩
theorem for_ex : Calls Try.prog 21 #[.agg #[.slice (some ⟨ba, 0, none⟩) 3 3, .int .i64 2, .int .i64 3, .int .i64 1, .int .i64 2], .slice (some ⟨bb, 0, none⟩) 9 9] w
    fun e w' => ∃ A c, e = .returned (.tuple #[.slice A 9 c, .int .i64 0]) ∧ Rd w' 1 A 9 (ints [0, 0, 1, 1, 2, 2, 1, 0, 0]) ∧ Below w.heap.size w w' := by
  refine (Force_any (some ⟨ba, 0, none⟩) 3 exP (some ⟨bb, 0, none⟩) 9 exD w hp hd (by decide)).mono ?_
  rintro e w' ⟨A, c, rfl, h1, h2⟩
  rw [if_pos ex_start, ex_force] at *
  exact ⟨A, c, by rw [ex_start]; rfl, h1.1, h2⟩
theorem ord_ex : Calls Try.prog 22 #[.agg #[.slice (some ⟨ba, 0, none⟩) 3 3, .int .i64 2, .int .i64 3, .int .i64 1, .int .i64 2], .slice (some ⟨bb, 0, none⟩) 9 9] w
    fun e w' => ∃ A c, e = .returned (.tuple #[.slice A 4 c, .int .i64 0]) ∧ Rd w' 3 A 4 (occs [⟨1, 2, 1⟩, ⟨3, 4, 2⟩, ⟨6, 6, 1⟩, ⟨7, 7, 0⟩]) ∧ Below w.heap.size w w' := by
  refine (Orders_any (some ⟨ba, 0, none⟩) 3 exP (some ⟨bb, 0, none⟩) 9 exD w hp hd (by decide)).mono ?_
  rintro e w' ⟨v, rfl, h1, h2⟩
  rw [if_pos ex_start, ex_ord] at *
  obtain ⟨g, cap, rfl⟩ := ownsRow_succ h1
  exact ⟨_, cap, by rw [ex_start]; rfl, Rd.of_own h1, h2⟩
theorem wit_ex : Calls Try.prog 18 #[.agg #[.slice (some ⟨ba, 0, none⟩) 3 3, .int .i64 2, .int .i64 3, .int .i64 1, .int .i64 2], .slice (some ⟨bb, 0, none⟩) 9 9, .int .i64 5] w
    fun e w' => e = .returned (.tuple #[.agg #[.int .i64 2, .int .i64 3], .int .i64 0]) ∧ Below w.heap.size w w' := by
  refine (Witness_any (some ⟨ba, 0, none⟩) 3 exP (some ⟨bb, 0, none⟩) 9 exD 5 w hp hd (by decide)).mono ?_
  rintro e w' ⟨rfl, h2⟩
  rw [ex_wit]
  exact ⟨rfl, h2⟩
theorem win_ex : Calls Try.prog 26 #[.agg #[.slice (some ⟨ba, 0, none⟩) 3 3, .int .i64 2, .int .i64 3, .int .i64 1, .int .i64 2], .slice (some ⟨bb, 0, none⟩) 9 9, .agg #[.int .i64 1, .int .i64 2500, .bool false]] w
    fun e w' => ∃ A c, e = .returned (.tuple #[.slice A 2 c, .int .i64 0]) ∧ Rd w' 2 A 2 (spcs [(0, 3), (6, 8)]) ∧ Below w.heap.size w w' := by
  refine (Windows_any (some ⟨ba, 0, none⟩) 3 exP (some ⟨bb, 0, none⟩) 9 exD ⟨1, 2500, false⟩ w hp hd (by decide)).mono ?_
  rintro e w' ⟨A, c, rfl, h1, h2⟩
  rw [ex_win] at *
  exact ⟨A, c, by rw [ex_ask]; rfl, h1.1, h2⟩
theorem rev_ex (bp : Nat) (hl : Rd w 5 (some ⟨bp, 0, none⟩) 3 (pscs exPs)) : Calls Try.prog 15 #[.agg #[.slice (some ⟨ba, 0, none⟩) 3 3, .int .i64 2, .int .i64 3, .int .i64 1, .int .i64 2], .slice (some ⟨bb, 0, none⟩) 9 9, .slice (some ⟨bp, 0, none⟩) 3 3] w
    fun e w' => ∃ A c, e = .returned (.tuple #[.slice A 3 c, .int .i64 0]) ∧ Rd w' 1 A 3 (ints [0, 2, 1]) ∧ Below w.heap.size w w' := by
  refine (Review_any (some ⟨ba, 0, none⟩) 3 exP (some ⟨bb, 0, none⟩) 9 exD (some ⟨bp, 0, none⟩) 3 exPs w hp hd (by decide) hl (by decide)).mono ?_
  rintro e w' ⟨A, c, rfl, h1, h2⟩
  rw [ex_rev] at *
  exact ⟨A, c, by rw [ex_revE]; rfl, h1.1, h2⟩
end
theorem eqInts_same (A B : Option Addr) (c d n : Nat) (l : List Int) (w : World) (hn : n = l.length) (hm : n ≤ 1000) (h1 : Rd w 1 A n (ints l)) (h2 : Rd w 1 B n (ints l)) :
    Calls Try.prog 28 #[.slice A n c, .slice B n d] w fun e w' => e = .returned (.bool true) ∧ Below w.heap.size w w' := by
  subst hn
  have := eqInts_any A c l B d l w h1 h2 (by omega) (by omega)
  rwa [decide_eq_true rfl] at this
theorem eqOrds_same (A B : Option Addr) (c d n : Nat) (l : List Ord) (w : World) (hn : n = l.length) (hm : n ≤ 1000) (h1 : Rd w 3 A n (occs l)) (h2 : Rd w 3 B n (occs l)) :
    Calls Try.prog 46 #[.slice A n c, .slice B n d] w fun e w' => e = .returned (.bool true) ∧ Below w.heap.size w w' := by
  subst hn
  have := eqOrds_any A c l B d l w h1 h2 (by omega) (by omega)
  rwa [decide_eq_true rfl] at this
theorem eqSpans_same (A B : Option Addr) (c d n : Nat) (l : List (Int × Int)) (w : World) (hn : n = l.length) (hm : n ≤ 1000) (h1 : Rd w 2 A n (spcs l)) (h2 : Rd w 2 B n (spcs l)) :
    Calls Try.prog 81 #[.slice A n c, .slice B n d] w fun e w' => e = .returned (.bool true) ∧ Below w.heap.size w w' := by
  subst hn
  have := eqSpans_any A c l B d l w h1 h2 (by omega) (by omega)
  rwa [decide_eq_true rfl] at this
end Go.Proofs.Ytfmhlnfcbbpfeaa
/- the walk of awake (printed by wip/tools/awake.py) -/
namespace Go.Proofs.Ytfmhlnfcbbpfeaa
open Go Go.RowKit Sp

theorem PolV.below {w w' : World} {A : Option Addr} {c : Nat} {p : Pol} (h : PolV w A c p) (hb : Below w.heap.size w w') : PolV w' A c p := ⟨h.1, h.2.1, h.2.2.below hb⟩

abbrev VS (vb : Nat) (w : World) : Prop := vb < w.heap.size ∧ w.cell? ⟨vb, 0, none⟩ = some (.int .i64 1) ∧ w.cell? ⟨vb, 1, none⟩ = some (.int .i64 2500) ∧ w.cell? ⟨vb, 2, none⟩ = some (.bool true)
theorem vs_alloc {vb : Nat} {w : World} (h : VS vb w) (o : Obj) : VS vb (w.alloc o) := ⟨by have := h.1; simp; omega, (World.cell?_alloc_lt w o ⟨vb, 0, none⟩ h.1).trans h.2.1, (World.cell?_alloc_lt w o ⟨vb, 1, none⟩ h.1).trans h.2.2.1, (World.cell?_alloc_lt w o ⟨vb, 2, none⟩ h.1).trans h.2.2.2⟩
theorem vs_below {vb : Nat} {w w' : World} (h : VS vb w) (hb : Below w.heap.size w w') : VS vb w' := ⟨Nat.lt_of_lt_of_le h.1 hb.size, (hb.cell (p := ⟨vb, 0, none⟩) h.1).trans h.2.1, (hb.cell (p := ⟨vb, 1, none⟩) h.1).trans h.2.2.1, (hb.cell (p := ⟨vb, 2, none⟩) h.1).trans h.2.2.2⟩

set_option maxRecDepth 100000 in
set_option maxHeartbeats 8000000 in
theorem awake_any (w : World) : Calls Try.prog 16 #[] w fun e w' => e = .returned (.bool true) ∧ Below w.heap.size w w' := by
  go_enter Try.func16, Try.ntmps16
  go_upto_region 2 with (first
    | (go_at_call 79; refine (Example_any _).mono ?_; rintro e wa ⟨ba, rfl, hp, b1⟩)
    | (go_at_call 80; refine (winter_any _).mono ?_; rintro e wb ⟨bb, rfl, hd, b2⟩)
    | (go_at_call 19; refine (dec_ex ba bb _ (hp.below b2) hd).mono ?_; rintro e w1 ⟨A1, c1, rfl, r1, b3⟩))
  have bS : Below w.heap.size w w1 := b1.trans ((b2.mono b1.size).trans (b3.mono (Nat.le_trans b1.size b2.size)))
  have B1 : Below w.heap.size w w1 := bS
  clear b1 b2 b3 hp hd bS
  go_upto_region 3 with (first
    | (go_at_call 79; refine (Example_any _).mono ?_; rintro e wa ⟨ba, rfl, hp, b1⟩)
    | (go_at_call 80; refine (winter_any _).mono ?_; rintro e wb ⟨bb, rfl, hd, b2⟩)
    | (go_at_call 21; refine (for_ex ba bb _ (hp.below b2) hd).mono ?_; rintro e w2 ⟨A2, c2, rfl, r2, b3⟩))
  have bS : Below w1.heap.size w1 w2 := b1.trans ((b2.mono b1.size).trans (b3.mono (Nat.le_trans b1.size b2.size)))
  have B2 : Below w.heap.size w w2 := B1.trans (bS.mono B1.size)
  have r1 := r1.below bS
  clear b1 b2 b3 hp hd bS B1
  go_upto_region 4 with (first
    | (go_at_call 79; refine (Example_any _).mono ?_; rintro e wa ⟨ba, rfl, hp, b1⟩)
    | (go_at_call 80; refine (winter_any _).mono ?_; rintro e wb ⟨bb, rfl, hd, b2⟩)
    | (go_at_call 22; refine (ord_ex ba bb _ (hp.below b2) hd).mono ?_; rintro e w3 ⟨A3, c3, rfl, r3, b3⟩))
  have bS : Below w2.heap.size w2 w3 := b1.trans ((b2.mono b1.size).trans (b3.mono (Nat.le_trans b1.size b2.size)))
  have B3 : Below w.heap.size w w3 := B2.trans (bS.mono B2.size)
  have r1 := r1.below bS
  have r2 := r2.below bS
  clear b1 b2 b3 hp hd bS B2
  go_upto_region 5 with (first
    | (go_at_call 79; refine (Example_any _).mono ?_; rintro e wa ⟨ba, rfl, hp, b1⟩)
    | (go_at_call 80; refine (winter_any _).mono ?_; rintro e wb ⟨bb, rfl, hd, b2⟩)
    | (go_at_call 18; refine (wit_ex ba bb _ (hp.below b2) hd).mono ?_; rintro e w4 ⟨rfl, b3⟩))
  have bS : Below w3.heap.size w3 w4 := b1.trans ((b2.mono b1.size).trans (b3.mono (Nat.le_trans b1.size b2.size)))
  have B4 : Below w.heap.size w w4 := B3.trans (bS.mono B3.size)
  have r1 := r1.below bS
  have r2 := r2.below bS
  have r3 := r3.below bS
  clear b1 b2 b3 hp hd bS B3
  obtain ⟨w4x, hw4⟩ : ∃ W, W = w4.alloc (.cells #[.int .i64 2, .int .i64 3] 42) := ⟨_, rfl⟩
  rw [← hw4]
  have bS : Below w4.heap.size w4 w4x := by rw [hw4]; exact (Below.refl _ _).alloc (Nat.le_refl _) _
  have s0 : w4x.cell? ⟨w4.heap.size, 0, none⟩ = some (.int .i64 2) := by rw [hw4, World.cell?_alloc_new]; rfl
  have s1 : w4x.cell? ⟨w4.heap.size, 1, none⟩ = some (.int .i64 3) := by rw [hw4, World.cell?_alloc_new]; rfl
  have sz : w4.heap.size < w4x.heap.size := by rw [hw4]; simp
  have B4x : Below w.heap.size w w4x := B4.trans (bS.mono B4.size)
  have r1 := r1.below bS
  have r2 := r2.below bS
  have r3 := r3.below bS
  generalize hsb : w4.heap.size = sb at s0 s1 sz ⊢
  clear hw4 bS B4 hsb
  go_upto_region 6 with (first
    | (go_at_call 79; refine (Example_any _).mono ?_; rintro e wa ⟨ba, rfl, hp, b1⟩)
    | (go_at_call 80; refine (winter_any _).mono ?_; rintro e wb ⟨bb, rfl, hd, b2⟩)
    | (go_at_call 26; refine (win_ex ba bb _ (hp.below b2) hd).mono ?_; rintro e w5 ⟨A5, c5, rfl, r5, b3⟩))
  have bS : Below w4x.heap.size w4x w5 := b1.trans ((b2.mono b1.size).trans (b3.mono (Nat.le_trans b1.size b2.size)))
  have B5 : Below w.heap.size w w5 := B4x.trans (bS.mono B4x.size)
  have r1 := r1.below bS
  have r2 := r2.below bS
  have r3 := r3.below bS
  have s0 := (bS.cell (p := ⟨sb, 0, none⟩) sz).trans s0
  have s1 := (bS.cell (p := ⟨sb, 1, none⟩) sz).trans s1
  have sz : sb < w5.heap.size := Nat.lt_of_lt_of_le sz bS.size
  clear b1 b2 b3 hp hd bS B4x
  go_upto_region 7 with fail
  obtain ⟨w6, hw6⟩ : ∃ W, W = w5.alloc (.cells #[.int .i64 1, .int .i64 2500, .bool true] 33) := ⟨_, rfl⟩
  rw [← hw6]
  have bS : Below w5.heap.size w5 w6 := by rw [hw6]; exact (Below.refl _ _).alloc (Nat.le_refl _) _
  have v0 : w6.cell? ⟨w5.heap.size, 0, none⟩ = some (.int .i64 1) := by rw [hw6, World.cell?_alloc_new]; rfl
  have v1 : w6.cell? ⟨w5.heap.size, 1, none⟩ = some (.int .i64 2500) := by rw [hw6, World.cell?_alloc_new]; rfl
  have v2 : w6.cell? ⟨w5.heap.size, 2, none⟩ = some (.bool true) := by rw [hw6, World.cell?_alloc_new]; rfl
  have vz : w5.heap.size < w6.heap.size := by rw [hw6]; simp
  have B6 : Below w.heap.size w w6 := B5.trans (bS.mono B5.size)
  have s0 := (bS.cell (p := ⟨sb, 0, none⟩) sz).trans s0
  have s1 := (bS.cell (p := ⟨sb, 1, none⟩) sz).trans s1
  have sz : sb < w6.heap.size := Nat.lt_of_lt_of_le sz bS.size
  have r1 := r1.below bS
  have r2 := r2.below bS
  have r3 := r3.below bS
  have r5 := r5.below bS
  generalize hvb : w5.heap.size = vb at v0 v1 v2 vz ⊢
  clear hw6 bS B5 hvb
  have HR := Lib.hid (And.intro r1 (And.intro r2 (And.intro r3 (And.intro r5 (And.intro s0 (And.intro s1 (And.intro sz B6)))))))
  clear r1 r2 r3 r5 s0 s1 sz B6
  have hv : VS vb w6 := ⟨vz, v0, v1, v2⟩
  clear vz v0 v1 v2
  go_region_held3 (fun w' => vb < w'.heap.size ∧ w'.cell? ⟨vb, 0, none⟩ = some (.int .i64 1) ∧ w'.cell? ⟨vb, 1, none⟩ = some (.int .i64 2500) ∧ w'.cell? ⟨vb, 2, none⟩ = some (.bool true)) (first | assumption | exact vs_alloc (by assumption) _ | exact vs_alloc (vs_below (by assumption) (Below.refl _ _).drew) _ | (simp only [World.size_drew, World.cell?_drew]; assumption))
    (first
      | (go_at_call 79; refine (Example_any _).mono ?_; rintro e wa ⟨ba, rfl, hp, b1⟩; have hva : VS vb wa := by first | exact vs_below (vs_below hv (Below.refl _ _).drew) b1 | exact vs_below (vs_alloc (vs_below hv (Below.refl _ _).drew) _) b1)
      | (go_at_call 80; refine (winter_any _).mono ?_; rintro e wb ⟨bb, rfl, hd, b2⟩; have hvb : VS vb wb := by first | exact vs_below hva b2 | exact vs_below (vs_alloc hva _) b2)
      | (go_at_call 15
         first
           | (have hp' := hp.below b2
              have hl' := (rd_lit wb 5 3 (pscs exPs) 35 rfl)
              have b0 : Below w6.heap.size w6 wb := (Below.refl _ _).drew.trans (b1.trans (b2.mono b1.size))
              have bl := (Below.refl wb.heap.size wb).alloc (Nat.le_refl _) (.cells (pscs exPs).toArray 35)
              refine (rev_ex ba bb _ (hp'.below bl) (hd.below bl) wb.heap.size hl').mono ?_
              rintro e w7 ⟨A6, c6, rfl, r6, b3⟩
              have hvc := vs_below (vs_alloc hvb _) b3
              have b4 : Below w6.heap.size w6 w7 := b0.trans ((bl.trans (b3.mono (by simp))).mono b0.size)
              clear b1 b2 b3 hp hd hp' hl' b0 bl)
           | (have hp' := hp.below b2
              have hl' := ((rd_lit w6.drew 5 3 (pscs exPs) 35 rfl).below b1).below b2
              have b0 : Below w6.heap.size w6 wb := ((Below.refl w6.heap.size w6).drew.alloc (Nat.le_refl _) _).trans ((b1.trans (b2.mono b1.size)).mono (by simp))
              refine (rev_ex ba bb _ hp' hd w6.heap.size hl').mono ?_
              rintro e w7 ⟨A6, c6, rfl, r6, b3⟩
              have hvc := vs_below hvb b3
              have b4 : Below w6.heap.size w6 w7 := b0.trans (b3.mono b0.size)
              clear b1 b2 b3 hp hd hp' hl' b0)
           | (have hp' := (hp.below ((Below.refl _ _).alloc (Nat.le_refl _) _)).below b2
              have hl' := (rd_lit wa 5 3 (pscs exPs) 35 rfl).below b2
              have ba' : Below w6.heap.size w6 wa := (Below.refl _ _).drew.trans b1
              have b0 : Below w6.heap.size w6 wb := (ba'.alloc ba'.size _).trans (b2.mono (by have := ba'.size; simp; omega))
              refine (rev_ex ba bb _ hp' hd wa.heap.size hl').mono ?_
              rintro e w7 ⟨A6, c6, rfl, r6, b3⟩
              have hvc := vs_below hvb b3
              have b4 : Below w6.heap.size w6 w7 := b0.trans (b3.mono b0.size)
              clear b1 b2 b3 hp hd hp' hl' b0 ba')))
  all_goals
    obtain ⟨r1, r2, r3, r5, s0, s1, sz, B6⟩ := HR.out
    have B7 : Below w.heap.size w w7 := B6.trans (b4.mono B6.size)
    have r1 := r1.below b4
    have r2 := r2.below b4
    have r3 := r3.below b4
    have r5 := r5.below b4
    have s0 := (b4.cell (p := ⟨sb, 0, none⟩) sz).trans s0
    have s1 := (b4.cell (p := ⟨sb, 1, none⟩) sz).trans s1
    have sz : sb < w7.heap.size := Nat.lt_of_lt_of_le sz b4.size
    clear b4 hv hva hvb hvc B6 HR
    have HR2 := Lib.hid (And.intro r1 (And.intro r2 (And.intro r3 (And.intro r5 r6))))
    clear r1 r2 r3 r5 r6
    go_wp2_with fail
    refine (eqInts_same A1 _ c1 9 9 [0, 1, 1, 2, 2, 2, 1, 0, 0] _ rfl (by decide) (HR2.out.1.below ((Below.refl _ _).alloc (Nat.le_refl _) _)) (rd_lit _ 1 9 (ints [0, 1, 1, 2, 2, 2, 1, 0, 0]) _ rfl)).mono ?_
    rintro e x1 ⟨rfl, b1⟩
    have d1 : Below w7.heap.size w7 x1 := ((Below.refl _ _).alloc (Nat.le_refl _) _).trans (b1.mono (by simp))
    have HD1 := Lib.hid d1
    clear b1 d1
    go_wp2_with fail
    refine (eqInts_same A2 _ c2 9 9 [0, 0, 1, 1, 2, 2, 1, 0, 0] _ rfl (by decide) (HR2.out.2.1.below (HD1.out.alloc HD1.out.size _)) (rd_lit _ 1 9 (ints [0, 0, 1, 1, 2, 2, 1, 0, 0]) _ rfl)).mono ?_
    rintro e x2 ⟨rfl, b2⟩
    have d2 : Below w7.heap.size w7 x2 := (HD1.out.alloc HD1.out.size _).trans (b2.mono (by have := HD1.out.size; simp; omega))
    have HD2 := Lib.hid d2
    clear b2 d2
    go_wp2_with fail
    refine (eqOrds_same A3 _ c3 4 4 [⟨1, 2, 1⟩, ⟨3, 4, 2⟩, ⟨6, 6, 1⟩, ⟨7, 7, 0⟩] _ rfl (by decide) (HR2.out.2.2.1.below (HD2.out.alloc HD2.out.size _)) (rd_lit _ 3 4 (occs [⟨1, 2, 1⟩, ⟨3, 4, 2⟩, ⟨6, 6, 1⟩, ⟨7, 7, 0⟩]) _ rfl)).mono ?_
    rintro e x3 ⟨rfl, b3⟩
    have d3 : Below w7.heap.size w7 x3 := (HD2.out.alloc HD2.out.size _).trans (b3.mono (by have := HD2.out.size; simp; omega))
    have s0' := (d3.cell (p := ⟨sb, 0, none⟩) sz).trans s0
    have s1' := (d3.cell (p := ⟨sb, 1, none⟩) sz).trans s1
    have HD3 := Lib.hid d3
    clear b3 d3
    go_wp2_with fail
    refine (eqSpans_same A5 _ c5 2 2 [(0, 3), (6, 8)] _ rfl (by decide) (HR2.out.2.2.2.1.below (HD3.out.alloc HD3.out.size _)) (rd_lit _ 2 2 (spcs [(0, 3), (6, 8)]) _ rfl)).mono ?_
    rintro e x4 ⟨rfl, b4⟩
    have d4 : Below w7.heap.size w7 x4 := (HD3.out.alloc HD3.out.size _).trans (b4.mono (by have := HD3.out.size; simp; omega))
    have HD4 := Lib.hid d4
    clear b4 d4
    go_wp2_with fail
    refine (eqInts_same A6 _ c6 3 3 [0, 2, 1] _ rfl (by decide) (HR2.out.2.2.2.2.below (HD4.out.alloc HD4.out.size _)) (rd_lit _ 1 3 (ints [0, 2, 1]) _ rfl)).mono ?_
    rintro e x5 ⟨rfl, b5⟩
    have d5 : Below w7.heap.size w7 x5 := (HD4.out.alloc HD4.out.size _).trans (b5.mono (by have := HD4.out.size; simp; omega))
    go_wp2_with fail
    go_ret
    exact ⟨rfl, B7.trans (d5.mono B7.size)⟩
end Go.Proofs.Ytfmhlnfcbbpfeaa
