/- the chapter's example: what each function answers -/
import Derived.Test.YtfmhlnfcbbpfeaaAwake
namespace Go.Proofs.Ytfmhlnfcbbpfeaa
open Go Go.RowKit Sp

def exPs : List Psg := [⟨⟨1, 2500, true⟩, 3, 6⟩, ⟨⟨1, 2500, true⟩, 3, 7⟩, ⟨⟨1, 2500, true⟩, 4, 4⟩]
set_option maxRecDepth 100000
theorem ex_start : startS exP exD = 0 := by decide +kernel
theorem ex_dec : decidedS exP exD = [0, 1, 1, 2, 2, 2, 1, 0, 0] := by decide +kernel
theorem ex_force : forceS exP exD = [0, 0, 1, 1, 2, 2, 1, 0, 0] := by decide +kernel
theorem ex_ord : ordersS exP exD = [⟨1, 2, 1⟩, ⟨3, 4, 2⟩, ⟨6, 6, 1⟩, ⟨7, 7, 0⟩] := by decide +kernel
theorem ex_wit : witR exP exD 5 = (0, 2, 3) := by decide +kernel
theorem ex_ask : askS exP exD ⟨1, 2500, false⟩ = 0 := by decide +kernel
theorem ex_win : windowsS exP exD ⟨1, 2500, false⟩ = [(0, 3), (6, 8)] := by decide +kernel
theorem ex_revE : reviewE exP exD exPs = 0 := by decide +kernel
theorem ex_rev : reviewS exP exD exPs = [0, 2, 1] := by decide +kernel

/-- Example's policy as a value -/
def exV (b : Nat) : Value := .agg #[.slice (some ⟨b, 0, none⟩) 3 3, .int .i64 2, .int .i64 3, .int .i64 1, .int .i64 2]

section
variable (ba bb : Nat) (w : World) (hp : PolV w (some ⟨ba, 0, none⟩) 3 exP) (hd : Rd w 1 (some ⟨bb, 0, none⟩) 9 (ints exD))
include hp hd
theorem dec_ex : Calls Try.prog 19 #[.agg #[.slice (some ⟨ba, 0, none⟩) 3 3, .int .i64 2, .int .i64 3, .int .i64 1, .int .i64 2], .slice (some ⟨bb, 0, none⟩) 9 9] w
    fun e w' => ∃ A c, e = .returned (.tuple #[.slice A 9 c, .int .i64 0]) ∧ Rd w' 1 A 9 (ints [0, 1, 1, 2, 2, 2, 1, 0, 0]) ∧ Below w.heap.size w w' := by
  refine (Decided_any (some ⟨ba, 0, none⟩) 3 exP (some ⟨bb, 0, none⟩) 9 exD w hp hd (by decide)).mono ?_
  rintro e w' ⟨A, c, rfl, h1, h2⟩
  rw [if_pos ex_start, ex_dec] at *
  exact ⟨A, c, by rw [ex_start]; rfl, h1.1, h2⟩
theorem for_ex : Calls Try.prog 21 #[.agg #[.slice (some ⟨ba, 0, none⟩) 3 3, .int .i64 2, .int .i64 3, .int .i64 1, .int .i64 2], .slice (some ⟨bb, 0, none⟩) 9 9] w
    fun e w' => ∃ A c, e = .returned (.tuple #[.slice A 9 c, .int .i64 0]) ∧ Rd w' 1 A 9 (ints [0, 0, 1, 1, 2, 2, 1, 0, 0]) ∧ Below w.heap.size w w' := by
  refine (Force_any (some ⟨ba, 0, none⟩) 3 exP (some ⟨bb, 0, none⟩) 9 exD w hp hd (by decide)).mono ?_
  rintro e w' ⟨A, c, rfl, h1, h2⟩
  rw [if_pos ex_start, ex_force] at *
  exact ⟨A, c, by rw [ex_start]; rfl, h1.1, h2⟩
theorem ord_ex : Calls Try.prog 22 #[.agg #[.slice (some ⟨ba, 0, none⟩) 3 3, .int .i64 2, .int .i64 3, .int .i64 1, .int .i64 2], .slice (some ⟨bb, 0, none⟩) 9 9] w
    fun e w' => ∃ A c, e = .returned (.tuple #[.slice A 4 c, .int .i64 0]) ∧ Rd w' 3 A 4 (occs [⟨1, 2, 1⟩, ⟨3, 4, 2⟩, ⟨6, 6, 1⟩, ⟨7, 7, 0⟩]) ∧ Below w.heap.size w w' := by
  refine (Orders_any (some ⟨ba, 0, none⟩) 3 exP (some ⟨bb, 0, none⟩) 9 exD w hp hd (by decide)).mono ?_
  rintro e w' ⟨v, rfl, h1, h2⟩
  rw [if_pos ex_start, ex_ord] at *
  obtain ⟨g, cap, rfl⟩ := ownsRow_succ h1
  exact ⟨_, cap, by rw [ex_start]; rfl, Rd.of_own h1, h2⟩
theorem wit_ex : Calls Try.prog 18 #[.agg #[.slice (some ⟨ba, 0, none⟩) 3 3, .int .i64 2, .int .i64 3, .int .i64 1, .int .i64 2], .slice (some ⟨bb, 0, none⟩) 9 9, .int .i64 5] w
    fun e w' => e = .returned (.tuple #[.agg #[.int .i64 2, .int .i64 3], .int .i64 0]) ∧ Below w.heap.size w w' := by
  refine (Witness_any (some ⟨ba, 0, none⟩) 3 exP (some ⟨bb, 0, none⟩) 9 exD 5 w hp hd (by decide)).mono ?_
  rintro e w' ⟨rfl, h2⟩
  rw [ex_wit]
  exact ⟨rfl, h2⟩
theorem win_ex : Calls Try.prog 26 #[.agg #[.slice (some ⟨ba, 0, none⟩) 3 3, .int .i64 2, .int .i64 3, .int .i64 1, .int .i64 2], .slice (some ⟨bb, 0, none⟩) 9 9, .agg #[.int .i64 1, .int .i64 2500, .bool false]] w
    fun e w' => ∃ A c, e = .returned (.tuple #[.slice A 2 c, .int .i64 0]) ∧ Rd w' 2 A 2 (spcs [(0, 3), (6, 8)]) ∧ Below w.heap.size w w' := by
  refine (Windows_any (some ⟨ba, 0, none⟩) 3 exP (some ⟨bb, 0, none⟩) 9 exD ⟨1, 2500, false⟩ w hp hd (by decide)).mono ?_
  rintro e w' ⟨A, c, rfl, h1, h2⟩
  rw [ex_win] at *
  exact ⟨A, c, by rw [ex_ask]; rfl, h1.1, h2⟩
theorem rev_ex (bp : Nat) (hl : Rd w 5 (some ⟨bp, 0, none⟩) 3 (pscs exPs)) : Calls Try.prog 15 #[.agg #[.slice (some ⟨ba, 0, none⟩) 3 3, .int .i64 2, .int .i64 3, .int .i64 1, .int .i64 2], .slice (some ⟨bb, 0, none⟩) 9 9, .slice (some ⟨bp, 0, none⟩) 3 3] w
    fun e w' => ∃ A c, e = .returned (.tuple #[.slice A 3 c, .int .i64 0]) ∧ Rd w' 1 A 3 (ints [0, 2, 1]) ∧ Below w.heap.size w w' := by
  refine (Review_any (some ⟨ba, 0, none⟩) 3 exP (some ⟨bb, 0, none⟩) 9 exD (some ⟨bp, 0, none⟩) 3 exPs w hp hd (by decide) hl (by decide)).mono ?_
  rintro e w' ⟨A, c, rfl, h1, h2⟩
  rw [ex_rev] at *
  exact ⟨A, c, by rw [ex_revE]; rfl, h1.1, h2⟩
end
theorem eqInts_same (A B : Option Addr) (c d n : Nat) (l : List Int) (w : World) (hn : n = l.length) (hm : n ≤ 1000) (h1 : Rd w 1 A n (ints l)) (h2 : Rd w 1 B n (ints l)) :
    Calls Try.prog 28 #[.slice A n c, .slice B n d] w fun e w' => e = .returned (.bool true) ∧ Below w.heap.size w w' := by
  subst hn
  have := eqInts_any A c l B d l w h1 h2 (by omega) (by omega)
  rwa [decide_eq_true rfl] at this
theorem eqOrds_same (A B : Option Addr) (c d n : Nat) (l : List Ord) (w : World) (hn : n = l.length) (hm : n ≤ 1000) (h1 : Rd w 3 A n (occs l)) (h2 : Rd w 3 B n (occs l)) :
    Calls Try.prog 46 #[.slice A n c, .slice B n d] w fun e w' => e = .returned (.bool true) ∧ Below w.heap.size w w' := by
  subst hn
  have := eqOrds_any A c l B d l w h1 h2 (by omega) (by omega)
  rwa [decide_eq_true rfl] at this
theorem eqSpans_same (A B : Option Addr) (c d n : Nat) (l : List (Int × Int)) (w : World) (hn : n = l.length) (hm : n ≤ 1000) (h1 : Rd w 2 A n (spcs l)) (h2 : Rd w 2 B n (spcs l)) :
    Calls Try.prog 81 #[.slice A n c, .slice B n d] w fun e w' => e = .returned (.bool true) ∧ Below w.heap.size w w' := by
  subst hn
  have := eqSpans_any A c l B d l w h1 h2 (by omega) (by omega)
  rwa [decide_eq_true rfl] at this
end Go.Proofs.Ytfmhlnfcbbpfeaa
