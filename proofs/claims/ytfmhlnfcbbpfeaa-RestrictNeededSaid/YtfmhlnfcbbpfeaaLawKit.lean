/- What the walks of layer 8's laws share: the policy and the history that were made, at each world behind them; what the functions answer where nothing is wrong. -/
import Derived.Test.YtfmhlnfcbbpfeaaReviewedP
import Derived.Test.YtfmhlnfcbbpfeaaAwakeC
import Derived.Test.YtfmhlnfcbbpfeaaShownP
import Derived.Test.YtfmhlnfcbbpfeaaShowsA
import Derived.Deep.DeepCutAuto
namespace Go.Proofs.Ytfmhlnfcbbpfeaa
open Go Go.RowKit Sp
set_option linter.unusedVariables false

/-- the policy p lies in block pb and in steps at As, the history at Ad; w: the first world -/
structure PD (w W : World) (pb : Nat) (As : Option Addr) (cs : Nat) (p : Pol) (Ad : Option Addr) (days : List Int) : Prop where
  blk : W.heap[pb]? = some (.cells #[.slice As p.steps.length cs, .int .i64 p.hold, .int .i64 p.calm, .int .i64 p.notice, .int .i64 p.grace] 25 (0, 0))
  pol : PolV W As cs p
  dys : Rd W 1 Ad days.length (ints days)
  bel : Below w.heap.size w W
section
variable {w W X : World} {pb : Nat} {As : Option Addr} {cs : Nat} {p : Pol} {Ad : Option Addr} {days : List Int}
theorem PD.below (h : PD w W pb As cs p Ad days) (hb : Below W.heap.size W X) : PD w X pb As cs p Ad days :=
  ⟨(hb.block _ (heap_lt h.blk)).trans h.blk, h.pol.below hb, h.dys.below hb, h.bel.trans (hb.mono h.bel.size)⟩
theorem PD.cells (h : PD w W pb As cs p Ad days) : W.cell? ⟨pb, 0, none⟩ = some (.slice As p.steps.length cs) ∧ W.cell? ⟨pb, 1, none⟩ = some (.int .i64 p.hold) ∧ W.cell? ⟨pb, 2, none⟩ = some (.int .i64 p.calm) ∧ W.cell? ⟨pb, 3, none⟩ = some (.int .i64 p.notice) ∧ W.cell? ⟨pb, 4, none⟩ = some (.int .i64 p.grace) ∧ pb < W.heap.size :=
  ⟨(cell_of_heap h.blk 0).trans rfl, (cell_of_heap h.blk 1).trans rfl, (cell_of_heap h.blk 2).trans rfl, (cell_of_heap h.blk 3).trans rfl, (cell_of_heap h.blk 4).trans rfl, heap_lt h.blk⟩
theorem PD.new {w2 : World} (hp : PolV w2 As cs p) (hd : Rd w2 1 Ad days.length (ints days)) (hb : Below w.heap.size w w2) :
    PD w (w2.alloc (.cells #[.slice As p.steps.length cs, .int .i64 p.hold, .int .i64 p.calm, .int .i64 p.notice, .int .i64 p.grace] 25)) w2.heap.size As cs p Ad days := by
  have b : ∀ o, Below w2.heap.size w2 (w2.alloc o) := fun o => (Below.refl _ _).alloc (Nat.le_refl _) _
  exact ⟨heap_alloc_new _ _, hp.below (b _), hd.below (b _), hb.alloc hb.size _⟩

variable (c : Nat) (hst : startS p days = 0)
include hst
theorem dec_ok (h : PD w X pb As cs p Ad days) (hm : days.length ≤ 9223372036854775807) : Calls Try.prog 19 #[.agg #[.slice As p.steps.length cs, .int .i64 p.hold, .int .i64 p.calm, .int .i64 p.notice, .int .i64 p.grace], .slice Ad days.length c] X
    fun e w' => ∃ A1 c1, e = .returned (.tuple #[.slice A1 days.length c1, .int .i64 0]) ∧ Rd w' 1 A1 days.length (ints (decidedS p days)) ∧ Below X.heap.size X w' := by
  refine (Decided_any As cs p Ad c days X h.pol h.dys hm).mono ?_
  rintro e w' ⟨A, c, rfl, h1, h2⟩
  rw [if_pos hst] at *
  rw [hst, decidedS_length]
  exact ⟨A, c, rfl, by have := h1.1; rwa [decidedS_length] at this, h2⟩
theorem for_ok (h : PD w X pb As cs p Ad days) (hm : days.length ≤ 9223372036854775807) : Calls Try.prog 21 #[.agg #[.slice As p.steps.length cs, .int .i64 p.hold, .int .i64 p.calm, .int .i64 p.notice, .int .i64 p.grace], .slice Ad days.length c] X
    fun e w' => ∃ A1 c1, e = .returned (.tuple #[.slice A1 days.length c1, .int .i64 0]) ∧ Rd w' 1 A1 days.length (ints (forceS p days)) ∧ Below X.heap.size X w' := by
  refine (Force_any As cs p Ad c days X h.pol h.dys hm).mono ?_
  rintro e w' ⟨A, c, rfl, h1, h2⟩
  rw [if_pos hst] at *
  rw [hst, forceS_length]
  exact ⟨A, c, rfl, by have := h1.1; rwa [forceS_length] at this, h2⟩
theorem shows_ok (h : PD w X pb As cs p Ad days) (hcc : days.length ≤ c ∧ c ≤ 9223372036854775807) {d k : Nat} (hd : d < days.length) (hk : k < p.steps.length) (lo hi : Int) (hhi : -4000000000000000000 ≤ hi) : Calls Try.prog 20 #[.agg #[.slice As p.steps.length cs, .int .i64 p.hold, .int .i64 p.calm, .int .i64 p.notice, .int .i64 p.grace], .slice Ad days.length c, .int .i64 d, .int .i64 k, .agg #[.int .i64 lo, .int .i64 hi]] X
    fun e w' => e = .returned (.tuple #[.bool (showsS p days (keptS p days) d k lo hi), .int .i64 0]) ∧ Below X.heap.size X w' := by
  refine (Shows_any As cs p Ad c days d k lo hi X h.pol h.dys hcc hhi).mono ?_
  rintro e w' ⟨rfl, h2⟩
  have he : shE p days d k = 0 := sh_ok hst (by simp [within]; omega) (by simp [within]; omega)
  refine ⟨?_, h2⟩
  rw [shB, he, if_pos rfl]
theorem may_call (h : PD w X pb As cs p Ad days) (hm : days.length ≤ 9223372036854775807) {v : Ves} (hv : vright v = true) {k : Nat} (hk : k < days.length) : Calls Try.prog 17 #[.agg #[.slice As p.steps.length cs, .int .i64 p.hold, .int .i64 p.calm, .int .i64 p.notice, .int .i64 p.grace], .slice Ad days.length c, .agg #[.int .i64 v.cls, .int .i64 v.ton, .bool v.esc], .int .i64 k] X
    fun e w' => e = .returned (.tuple #[.bool ((passesS p days v).getD k false), .int .i64 0]) ∧ Below X.heap.size X w' := by
  refine (May_any As cs p Ad c days v k X h.pol h.dys hm).mono ?_
  rintro e w' ⟨rfl, h2⟩
  have e0 : askS p days v = 0 := by rw [ask_right hst, hv]; rfl
  have e1 : mayE p days v k = 0 := by rw [may_day e0, if_pos (by simp [within]; omega)]
  refine ⟨?_, h2⟩
  rw [mayB, e1, if_pos rfl, Int.toNat_natCast]
end
theorem drewB {w W : World} (h : Below w.heap.size w W) (n : Nat) : Below w.heap.size w (W.drewN n) := below_drewN h n
end Go.Proofs.Ytfmhlnfcbbpfeaa
