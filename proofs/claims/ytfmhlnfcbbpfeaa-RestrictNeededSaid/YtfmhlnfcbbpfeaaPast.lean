/- polynyalaw08.past: a history of numbers -/
import Derived.Test.YtfmhlnfcbbpfeaaDrawn
import Derived.Test.YtfmhlnfcbbpfeaaDec
import Derived.Deep.RegionHeld3
import Derived.IntWalk
namespace Go.Proofs.Ytfmhlnfcbbpfeaa
open Go Go.RowKit Sp
set_option linter.unusedVariables false

def DaysOk (l : List Int) : Prop := ∀ x ∈ l, 0 ≤ x ∧ x ≤ 2000
def PastPost' (w : World) (e : Ending) (w' : World) : Prop :=
  ∃ A c days q, e = .returned (.slice A days.length c) ∧ OwnA w' 3 A days.length c (ints days) q ∧ DaysOk days ∧ days.length ≤ 90 ∧ Below w.heap.size w w'
def PastPost (w : World) (e : Ending) (w' : World) : Prop :=
  ∃ A c days, e = .returned (.slice A days.length c) ∧ Rd w' 1 A days.length (ints days) ∧ DaysOk days ∧ days.length ≤ 90 ∧ days.length ≤ c ∧ c ≤ 9223372036854775807 ∧ Below w.heap.size w w'

structure PastSt (w0 wr : World) (A : Option Addr) (n c : Nat) (days : List Int) (q : List Nat) : Prop where
  own : OwnA wr 3 A n c (ints days) q
  new_ : ∀ g ∈ q, w0.heap.size ≤ g
  keep : Keep [] w0 wr
  ok : DaysOk days

set_option maxRecDepth 100000 in
set_option maxHeartbeats 2000000 in
theorem past_own (A : Option Addr) (c : Nat) (l : List Int) (w : World) (hr : Rd w 1 A l.length (byts l)) (hl : Bytes l) (hm : l.length ≤ 9223372036854775800) :
    Calls Try.prog 14 #[.slice A l.length c] w (PastPost' w) := by
  obtain ⟨i0, hi, hz0, hz1, hz2⟩ := info_parts info_int
  have HR := Lib.hid (And.intro hr hl)
  clear hr hl
  go_enter Try.func14, Try.ntmps14
  go_wp2_with fail
  go_loopw [3, 4] (fun o i wr => ∃ (k : Nat) (Ao : Option Addr) (n co : Nat) (days : List Int) (q : List Nat), k ≤ l.length + 1 ∧ i = .int .i64 k ∧ o = .slice Ao n co ∧ n ≤ 84 ∧ PastSt w wr Ao n co days q)
    (fun _ i _ => l.length + 2 - (intOf i).toNat)
  case atStart => exact ⟨0, none, 0, 0, [], [], Nat.zero_le _, rfl, rfl, by omega, OwnA.nil _ _, by simp, Keep.refl _ _, by simp [DaysOk]⟩
  case round =>
    obtain ⟨k, Ao, n, co, days, q, hk, rfl, rfl, hn, hst⟩ := hrel
    have HST := Lib.hid hst
    clear hst
    by_cases hlt : k + 1 < l.length
    · by_cases h80 : n < 80
      · obtain ⟨b, off, rfl, hb, hc⟩ := HR.out.1.2 (by omega)
        have hb' : b < w.heap.size := hb
        obtain ⟨x, hx⟩ : ∃ x, x = l.getD k 0 := ⟨_, rfl⟩
        obtain ⟨y, hy⟩ : ∃ y, y = l.getD (k + 1) 0 := ⟨_, rfl⟩
        have c0 : w.cell? ⟨b, off + k, none⟩ = some (.int .u8 x) := by rw [hx]; exact hc _ _ (byts_get (by omega))
        have c1 : w.cell? ⟨b, off + (k + 1), none⟩ = some (.int .u8 y) := by rw [hy]; exact hc _ _ (byts_get (by omega))
        have xr := HR.out.2.get k
        have yr := HR.out.2.get (k + 1)
        rw [← hx] at xr
        rw [← hy] at yr
        have d0 : wr.cell? ⟨b, off + k, none⟩ = some (.int .u8 x) := HST.out.keep.cell c0 (by simp)
        have HC := Lib.hid (And.intro c0 c1)
        clear hc hx hy c0 c1
        have hd80 : decide ((n : Int) < 80) = true := by simp; omega
        obtain ⟨wo, rfl⟩ : ∃ wo : World, wo = wr := ⟨_, rfl⟩
        go_wp2_with fail
        obtain ⟨R, hR⟩ : ∃ R : Nat, 1 + x % 5 = (R : Int) := ⟨(1 + x % 5).toNat, by omega⟩
        have hR5 : R ≤ 5 := by omega
        rw [hR]
        have HRR := Lib.hid hR
        clear hR d0
        go_loopw [3, 23] (fun o r wr => ∃ (j : Nat) (Ao : Option Addr) (m co : Nat) (days : List Int) (q : List Nat), j ≤ R ∧ r = .int .u8 j ∧ o = .slice Ao m co ∧ m = n + j ∧ PastSt w wr Ao m co days q)
          (fun _ r _ => R - (intOf r).toNat)
        case atStart => exact ⟨0, Ao, n, co, days, q, Nat.zero_le _, rfl, rfl, by omega, HST.out⟩
        case round =>
          obtain ⟨j, Ap, m, cp, days', q', hj, rfl, rfl, hmn, hst'⟩ := hrel
          have HS2 := Lib.hid hst'
          clear hst'
          have hmn' : m ≤ 90 := by omega
          have HM := Lib.hid hmn
          clear hmn
          by_cases hlt2 : j < R
          · have e0 : wr.cell? ⟨b, off + k, none⟩ = some (.int .u8 x) := HS2.out.keep.cell HC.out.1 (by simp)
            have e1 : wr.cell? ⟨b, off + (k + 1), none⟩ = some (.int .u8 y) := HS2.out.keep.cell HC.out.2 (by simp)
            have nb : b ∉ q' := fun hm => by have := HS2.out.new_ b hm; omega
            have KC : ∀ {o : Nat} {u : Value}, wr.cell? ⟨b, o, none⟩ = some u → ∀ w', Keep q' wr w' → w'.cell? ⟨b, o, none⟩ = some u := fun h w' hk => hk.cell h nb
            have e0' := KC e0
            have e1' := KC e1
            have w1 : IntKind.i64.wrap ((k : Int) + 1) = (k : Int) + 1 := IntWalk.i64_in _ (by omega)
            have w2 : IntKind.i64.wrap (2 * y) = 2 * y := IntWalk.i64_in _ (by omega)
            have w3 : IntKind.i64.wrap (2 * y + x / 5) = 2 * y + x / 5 := IntWalk.i64_in _ (by omega)
            have w4 : IntKind.i64.wrap x = x := IntWalk.i64_in _ (by omega)
            have w5 : IntKind.i64.wrap y = y := IntWalk.i64_in _ (by omega)
            have w6 : x.tdiv 5 = x / 5 := Int.tdiv_eq_ediv_of_nonneg (by omega)
            have w7 : IntKind.i64.wrap (x / 5) = x / 5 := IntWalk.i64_in _ (by omega)
            have n1 : (0 : Int) ≤ (k : Int) + 1 := by omega
            have n2 : ((k : Int) + 1).toNat = k + 1 := by omega
            have n3 : (k : Int) + 1 < (l.length : Int) := by omega
            have n4 : (k : Int) < (l.length : Int) := by omega
            have HN := Lib.hid nb
            clear nb KC e0 e1
            go_upto_region 7 with fail
            go_region_held3 (fun w' => Keep q' wr w') (first | exact (Keep.refl _ _).drew | assumption | exact ((Keep.refl _ _).drew).alloc _)
              (first
                | (refine step_append_A rfl (.tmp 25) (.tmp 40) 27 rfl i0 _ 8 Try.underlying27 hi hz0 hz1 hz2 rfl (A := Ap) (n := m) (c := cp) (xs := ints days') (fp := q') (by simp [Act.eval]) _ (by simp [Act.eval]) (.int .i64 (2 * y + x / 5)) ((HS2.out.own.keepS ((Keep.refl [] wr).drew) (by simp)).alloc _) (cell_new_one _ _ _) rfl (by omega) (by omega) ?_
                   intro g off' c' wz h1 h2 h3 h4
                   have HQ := Lib.hid (And.intro h1 (And.intro h2 h4))
                   have K3 : Keep q' wr wz := (((Keep.refl q' wr).drew).alloc _).trans h4 (fun y hy => .inl hy)
                   clear h1 h2 h3 h4))
            go_wp2_with fail
            go_roundw
            case measure => simp [intOf]; omega
            case rel =>
              obtain ⟨h1, h2, h4⟩ := HQ.out
              refine ⟨j + 1, some ⟨g, off', none⟩, m + 1, c', days' ++ [2 * y + x / 5], [g], by omega, by go_num, rfl, by have := HM.out; omega, ?_, ?_, ?_, ?_⟩
              · simpa [ints] using h1
              · intro z hz
                rw [List.mem_singleton.1 hz]
                rcases h2 with h2 | h2
                · exact HS2.out.new_ _ h2
                · have := HS2.out.keep.size; simp at h2; omega
              · exact HS2.out.keep.trans K3 (fun z hz => .inr (HS2.out.new_ z hz))
              · intro z hz
                rcases List.mem_append.1 hz with h | h
                · exact HS2.out.ok z h
                · rw [List.mem_singleton.1 h]; omega
          · obtain rfl : j = R := by omega
            go_wp2_with fail
            go_roundw
            case measure => simp [intOf]; omega
            case rel => exact ⟨k + 2, Ap, m, cp, days', q', by omega, by go_num, rfl, by have := HM.out; omega, HS2.out⟩
      · go_wp2_with fail
        go_ret
        have hl : days.length = n := by have := HST.out.own.1; simpa [ints] using this
        exact ⟨Ao, co, days, q, by rw [hl]; rfl, by rw [hl]; exact HST.out.own, HST.out.ok, by omega, HST.out.keep.below (Nat.le_refl _) (by simp)⟩
    · go_wp2_with fail
      go_ret
      have hl : days.length = n := by have := HST.out.own.1; simpa [ints] using this
      exact ⟨Ao, co, days, q, by rw [hl]; rfl, by rw [hl]; exact HST.out.own, HST.out.ok, by omega, HST.out.keep.below (Nat.le_refl _) (by simp)⟩

theorem past_any (A : Option Addr) (c : Nat) (l : List Int) (w : World) (hr : Rd w 1 A l.length (byts l)) (hl : Bytes l) (hm : l.length ≤ 9223372036854775800) :
    Calls Try.prog 14 #[.slice A l.length c] w (PastPost w) := by
  refine (past_own A c l w hr hl hm).mono ?_
  rintro e w' ⟨A, c, days, q, rfl, h1, h2, h3, h4⟩
  exact ⟨A, c, days, rfl, h1.rd, h2, h3, h1.ge, h1.cap, h4⟩
theorem OwnA.nil_cap {w : World} {e : TypeId} {A : Option Addr} {n c : Nat} {xs : List Value} {fp : List Nat} (h : OwnA w e A n c xs fp) (hA : A = none) : c = 0 ∧ n = 0 := by
  rcases h.2 with ⟨_, h1, h2, _⟩ | ⟨g, off, cur, h1, _⟩
  · exact ⟨h2, h1⟩
  · rw [hA] at h1; cases h1
end Go.Proofs.Ytfmhlnfcbbpfeaa
