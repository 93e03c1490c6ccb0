/- RestrictSteps: what is kept from call to call, and the calls, with letters for their answers -/
import Derived.Test.YtbgnkljjgfcngaaGreatRSp11
import Derived.Test.YtbgnkljjgfcngaaGreatRSp16
import Derived.Test.YtbgnkljjgfcngaaGreatRSp18
import Derived.Test.YtbgnkljjgfcngaaGreatRSp14
import Derived.Deep.RegionHeld3
import Derived.Deep.DeepCutAuto
import Derived.Deep.CutRange
set_option linter.unusedVariables false
set_option linter.unusedSimpArgs false
namespace Go.Proofs.YtbgnkljjgfcngaaGreat
open Go Go.RowKit Sp
set_option linter.unusedVariables false

theorem stcs_one (l : List Stp) : ∀ u ∈ stcs l, u.oneCell' = true := by
  intro u hu
  simp only [stcs, stc, List.mem_flatMap] at hu
  obtain ⟨x, _, hx⟩ := hu
  simp at hx
  rcases hx with rfl | rfl | rfl | rfl <;> rfl
theorem occs_one (l : List Ord) : ∀ u ∈ occs l, u.oneCell' = true := by
  intro u hu
  simp only [occs, occ, List.mem_flatMap] at hu
  obtain ⟨x, _, hx⟩ := hu
  simp at hx
  rcases hx with rfl | rfl | rfl <;> rfl

/-- the two policies in their blocks, own copies and originals of the history and of the orders, the span -/
structure SQ (w X : World) (b13 b14 vb : Nat) (p : Pol) (days : List Int) (l : List Ord) (lo hi : Int) (Ac : Option Addr) (cc : Nat) (Ap : Option Addr) (cp : Nat) (Ao : Option Addr) (co : Nat) (A Aq Al : Option Addr) : Prop where
  h13 : X.heap[b13]? = some (.cells #[.slice Ac p.steps.length cc, .int .i64 p.hold, .int .i64 p.calm, .int .i64 p.notice, .int .i64 p.grace] 25 (0, 0))
  h14 : X.heap[b14]? = some (.cells #[.slice Ap p.steps.length cp, .int .i64 p.hold, .int .i64 p.calm, .int .i64 p.notice, .int .i64 p.grace] 65 (0, 0))
  hv : X.heap[vb]? = some (.cells #[.int .i64 lo, .int .i64 hi] 33 (0, 0))
  pq : PolV X Ac cc p
  pr : PolV X Ap cp p
  ro : Rd X 1 Ao days.length (ints days)
  ra : Rd X 1 A days.length (ints days)
  rq : Rd X 3 Aq l.length (occs l)
  rl : Rd X 3 Al l.length (occs l)
  bel : Below w.heap.size w X
section
variable {w X Y : World} {b13 b14 vb : Nat} {p : Pol} {days : List Int} {l : List Ord} {lo hi : Int} {Ac : Option Addr} {cc : Nat} {Ap : Option Addr} {cp : Nat} {Ao : Option Addr} {co : Nat} {A Aq Al : Option Addr}
theorem SQ.below (h : SQ w X b13 b14 vb p days l lo hi Ac cc Ap cp Ao co A Aq Al) (hb : Below X.heap.size X Y) : SQ w Y b13 b14 vb p days l lo hi Ac cc Ap cp Ao co A Aq Al :=
  ⟨(hb.block _ (heap_lt h.h13)).trans h.h13, (hb.block _ (heap_lt h.h14)).trans h.h14, (hb.block _ (heap_lt h.hv)).trans h.hv, ⟨h.pq.1, h.pq.2.1, h.pq.2.2.below hb⟩, ⟨h.pr.1, h.pr.2.1, h.pr.2.2.below hb⟩, h.ro.below hb, h.ra.below hb, h.rq.below hb, h.rl.below hb, h.bel.trans (hb.mono h.bel.size)⟩
theorem SQ.cells (h : SQ w X b13 b14 vb p days l lo hi Ac cc Ap cp Ao co A Aq Al) : (X.cell? ⟨b13, 0, none⟩ = some (.slice Ac p.steps.length cc) ∧ X.cell? ⟨b13, 1, none⟩ = some (.int .i64 p.hold) ∧ X.cell? ⟨b13, 2, none⟩ = some (.int .i64 p.calm) ∧ X.cell? ⟨b13, 3, none⟩ = some (.int .i64 p.notice) ∧ X.cell? ⟨b13, 4, none⟩ = some (.int .i64 p.grace) ∧ b13 < X.heap.size) ∧
    (X.cell? ⟨b14, 0, none⟩ = some (.slice Ap p.steps.length cp) ∧ X.cell? ⟨b14, 1, none⟩ = some (.int .i64 p.hold) ∧ X.cell? ⟨b14, 2, none⟩ = some (.int .i64 p.calm) ∧ X.cell? ⟨b14, 3, none⟩ = some (.int .i64 p.notice) ∧ X.cell? ⟨b14, 4, none⟩ = some (.int .i64 p.grace) ∧ b14 < X.heap.size) ∧
    (X.cell? ⟨vb, 0, none⟩ = some (.int .i64 lo) ∧ X.cell? ⟨vb, 1, none⟩ = some (.int .i64 hi) ∧ vb < X.heap.size) :=
  ⟨⟨(cell_of_heap h.h13 0).trans rfl, (cell_of_heap h.h13 1).trans rfl, (cell_of_heap h.h13 2).trans rfl, (cell_of_heap h.h13 3).trans rfl, (cell_of_heap h.h13 4).trans rfl, heap_lt h.h13⟩,
   ⟨(cell_of_heap h.h14 0).trans rfl, (cell_of_heap h.h14 1).trans rfl, (cell_of_heap h.h14 2).trans rfl, (cell_of_heap h.h14 3).trans rfl, (cell_of_heap h.h14 4).trans rfl, heap_lt h.h14⟩,
   (cell_of_heap h.hv 0).trans rfl, (cell_of_heap h.hv 1).trans rfl, heap_lt h.hv⟩
end

abbrev pqV (Ac : Option Addr) (cc : Nat) (p : Pol) : Value := .agg #[.slice Ac p.steps.length cc, .int .i64 p.hold, .int .i64 p.calm, .int .i64 p.notice, .int .i64 p.grace]
/-- the calls' contracts, with letters -/
structure SC (w : World) (b13 b14 vb : Nat) (p : Pol) (days : List Int) (l : List Ord) (day step lo hi : Int) (Ac : Option Addr) (cc : Nat) (Ap : Option Addr) (cp : Nat) (Ao : Option Addr) (co : Nat) (A : Option Addr) (c : Nat) (Aq : Option Addr) (cq : Nat) (Al : Option Addr) (cl : Nat)
    (ck er : Int) (LD LF : List Int) (LO : List Ord) (a1 a2 x0 x1 x2 sE : Int) (sB : Bool) : Prop where
  chk : ∀ X, SQ w X b13 b14 vb p days l lo hi Ac cc Ap cp Ao co A Aq Al → Calls Tryz.prog 21 #[pqV Ac cc p] X fun e Y => e = .returned (.int .i64 ck) ∧ Below X.heap.size X Y
  rchk : ∀ X, SQ w X b13 b14 vb p days l lo hi Ac cc Ap cp Ao co A Aq Al → Calls Tryz.prog 14 #[pqV Ap cp p] X fun e Y => e = .returned (.int .i64 ck) ∧ Below X.heap.size X Y
  dec : ∀ X, SQ w X b13 b14 vb p days l lo hi Ac cc Ap cp Ao co A Aq Al → Calls Tryz.prog 22 #[pqV Ac cc p, .slice Ao days.length co] X fun e Y => ∃ A1 c1, e = .returned (.tuple #[.slice A1 LD.length c1, .int .i64 er]) ∧ Rd Y 1 A1 LD.length (ints LD) ∧ Below X.heap.size X Y
  rdec : ∀ X, SQ w X b13 b14 vb p days l lo hi Ac cc Ap cp Ao co A Aq Al → Calls Tryz.prog 23 #[pqV Ap cp p, .slice A days.length c] X fun e Y => ∃ A1 c1, e = .returned (.tuple #[.slice A1 LD.length c1, .int .i64 er]) ∧ Rd Y 1 A1 LD.length (ints LD) ∧ Below X.heap.size X Y
  for_ : ∀ X, SQ w X b13 b14 vb p days l lo hi Ac cc Ap cp Ao co A Aq Al → Calls Tryz.prog 11 #[pqV Ac cc p, .slice Ao days.length co] X fun e Y => ∃ A1 c1, e = .returned (.tuple #[.slice A1 LF.length c1, .int .i64 er]) ∧ Rd Y 1 A1 LF.length (ints LF) ∧ Below X.heap.size X Y
  rfor : ∀ X, SQ w X b13 b14 vb p days l lo hi Ac cc Ap cp Ao co A Aq Al → Calls Tryz.prog 25 #[pqV Ap cp p, .slice A days.length c] X fun e Y => ∃ A1 c1, e = .returned (.tuple #[.slice A1 LF.length c1, .int .i64 er]) ∧ Rd Y 1 A1 LF.length (ints LF) ∧ Below X.heap.size X Y
  ord : ∀ X, SQ w X b13 b14 vb p days l lo hi Ac cc Ap cp Ao co A Aq Al → Calls Tryz.prog 26 #[pqV Ac cc p, .slice Ao days.length co] X fun e Y => ∃ A1 c1, e = .returned (.tuple #[.slice A1 LO.length c1, .int .i64 er]) ∧ Rd Y 3 A1 LO.length (occs LO) ∧ Below X.heap.size X Y
  rord : ∀ X, SQ w X b13 b14 vb p days l lo hi Ac cc Ap cp Ao co A Aq Al → Calls Tryz.prog 27 #[pqV Ap cp p, .slice A days.length c] X fun e Y => ∃ A1 c1, e = .returned (.tuple #[.slice A1 LO.length c1, .int .i64 er]) ∧ Rd Y 3 A1 LO.length (occs LO) ∧ Below X.heap.size X Y
  aud : ∀ X, SQ w X b13 b14 vb p days l lo hi Ac cc Ap cp Ao co A Aq Al → Calls Tryz.prog 30 #[pqV Ac cc p, .slice Ao days.length co, .slice Aq l.length cq] X fun e Y => e = .returned (.tuple #[.int .i64 a1, .int .i64 a2]) ∧ Below X.heap.size X Y
  raud : ∀ X Ax cx, SQ w X b13 b14 vb p days l lo hi Ac cc Ap cp Ao co A Aq Al → Rd X 3 Ax l.length (occs l) → Calls Tryz.prog 31 #[pqV Ap cp p, .slice A days.length c, .slice Ax l.length cx] X fun e Y => e = .returned (.tuple #[.int .i64 a1, .int .i64 a2]) ∧ Below X.heap.size X Y
  wit : ∀ X, SQ w X b13 b14 vb p days l lo hi Ac cc Ap cp Ao co A Aq Al → Calls Tryz.prog 32 #[pqV Ac cc p, .slice Ao days.length co, .int .i64 day] X fun e Y => e = .returned (.tuple #[.agg #[.int .i64 x1, .int .i64 x2], .int .i64 x0]) ∧ Below X.heap.size X Y
  rwit : ∀ X, SQ w X b13 b14 vb p days l lo hi Ac cc Ap cp Ao co A Aq Al → Calls Tryz.prog 33 #[pqV Ap cp p, .slice A days.length c, .int .i64 day] X fun e Y => e = .returned (.tuple #[.agg #[.int .i64 x1, .int .i64 x2], .int .i64 x0]) ∧ Below X.heap.size X Y
  shw : ∀ X, SQ w X b13 b14 vb p days l lo hi Ac cc Ap cp Ao co A Aq Al → Calls Tryz.prog 34 #[pqV Ac cc p, .slice Ao days.length co, .int .i64 day, .int .i64 step, .agg #[.int .i64 lo, .int .i64 hi]] X fun e Y => e = .returned (.tuple #[.bool sB, .int .i64 sE]) ∧ Below X.heap.size X Y
  rshw : ∀ X, SQ w X b13 b14 vb p days l lo hi Ac cc Ap cp Ao co A Aq Al → Calls Tryz.prog 35 #[pqV Ap cp p, .slice A days.length c, .int .i64 day, .int .i64 step, .agg #[.int .i64 lo, .int .i64 hi]] X fun e Y => e = .returned (.tuple #[.bool sB, .int .i64 sE]) ∧ Below X.heap.size X Y
  sam : ∀ X, SQ w X b13 b14 vb p days l lo hi Ac cc Ap cp Ao co A Aq Al → Calls Tryz.prog 36 #[pqV Ac cc p, pqV Ap cp p] X fun e Y => e = .returned (.bool true) ∧ Below X.heap.size X Y
  smi : ∀ X, SQ w X b13 b14 vb p days l lo hi Ac cc Ap cp Ao co A Aq Al → Calls Tryz.prog 24 #[.slice Ao days.length co, .slice A days.length c] X fun e Y => e = .returned (.bool true) ∧ Below X.heap.size X Y
  smo : ∀ X, SQ w X b13 b14 vb p days l lo hi Ac cc Ap cp Ao co A Aq Al → Calls Tryz.prog 37 #[.slice Aq l.length cq, .slice Al l.length cl] X fun e Y => e = .returned (.bool true) ∧ Below X.heap.size X Y
  nD : LD.length ≤ 9223372036854775807
  nF : LF.length ≤ 9223372036854775807
  nO : LO.length ≤ 9223372036854775807

theorem sc_all (w : World) (b13 b14 vb : Nat) (p : Pol) (days : List Int) (l : List Ord) (day step lo hi : Int) (Ac : Option Addr) (cc : Nat) (Ap : Option Addr) (cp : Nat) (Ao : Option Addr) (co : Nat) (A : Option Addr) (c : Nat) (Aq : Option Addr) (cq : Nat) (Al : Option Addr) (cl : Nat)
    (hps : p.steps.length ≤ 20) (hd : days.length ≤ 420) (hl : l.length ≤ 80) (hco : days.length ≤ co ∧ co ≤ 9223372036854775807) (hhi : -9223372036854775808 ≤ hi) :
    SC w b13 b14 vb p days l day step lo hi Ac cc Ap cp Ao co A c Aq cq Al cl (checkS p) (startS p days) (rDecidedL p days) (rForceL p days) (rOrdersL p days) (auditR p days l).1 (auditR p days l).2 (witR p days day).1 (witR p days day).2.1 (witR p days day).2.2 (shE p days day step) (shB p days day step lo hi) where
  chk X h := check_any Ac cc p X h.pq
  rchk X h := rcheck_any Ap cp p X h.pr
  dec X h := (Decided_any Ac cc p Ao co days X h.pq h.ro (by omega)).mono fun e Y ⟨A1, c1, h1, h2, h3⟩ => ⟨A1, c1, h1, h2.1, h3⟩
  rdec X h := rDecided_any Ap cp p A c days X h.pr h.ra (by omega)
  for_ X h := (Force_any Ac cc p Ao co days X h.pq h.ro (by omega)).mono fun e Y ⟨A1, c1, h1, h2, h3⟩ => ⟨A1, c1, h1, h2.1, h3⟩
  rfor X h := rForce_any Ap cp p A c days X h.pr h.ra (by omega)
  ord X h := (Orders_any Ac cc p Ao co days X h.pq h.ro (by omega)).mono fun e Y ⟨v, h1, h2, h3⟩ => by
    rcases h2.2 with ⟨rfl, hn⟩ | ⟨g, cap, cur, rfl, _⟩
    · have hL : rOrdersL p days = [] := List.eq_nil_of_length_eq_zero hn
      rw [hL]
      exact ⟨none, 0, h1, Rd.nil _ _ _, h3⟩
    · exact ⟨_, cap, h1, Rd.of_own h2, h3⟩
  rord X h := (rOrders_any Ap cp p A c days X h.pr h.ra (by omega)).mono fun e Y ⟨A1, c1, h1, h2, _, h3⟩ => ⟨A1, c1, h1, h2, h3⟩
  aud X h := Audit_any Ac cc p Ao co days Aq cq l X h.pq h.ro (by omega) h.rq (by omega)
  raud X Ax cx h hx := rAudit_any Ap cp p A c days Ax cx l X h.pr h.ra (by omega) hx (by omega)
  wit X h := Witness_any Ac cc p Ao co days day X h.pq h.ro hco
  rwit X h := rWitness_any Ap cp p A c days day X h.pr h.ra (by omega)
  shw X h := Shows_all Ac cc p Ao co days day step lo hi X h.pq h.ro hco hhi
  rshw X h := rShows_any Ap cp p A c days day step lo hi X h.pr h.ra (by omega)
  sam X h := same_any Ac cc p Ap cp X h.pq h.pr.2.2 (by omega)
  smi X h := sameInts_any Ao co days A c X h.ro h.ra (by omega)
  smo X h := eqOrds_same Aq Al cq cl l.length l X rfl (by omega) h.rq h.rl
  nD := by unfold rDecidedL; split <;> simp [decidedS_length]; omega
  nF := by unfold rForceL; split <;> simp [forceS_length]; omega
  nO := by
    unfold rOrdersL; split
    · have := ordN_length (forceS p days) p.notice days.length
      rw [ordersS]; omega
    · simp
end Go.Proofs.YtbgnkljjgfcngaaGreat
/- polynyalaw08.RestrictSteps -/
namespace Go.Proofs.YtbgnkljjgfcngaaGreat
open Go Go.RowKit Sp
set_option linter.unusedVariables false


def StV (As : Option Addr) (cs : Nat) (p : Pol) (s : RgS) : Nat → Value → Prop
  | 0, v => v = .agg #[.slice As p.steps.length cs, .int .i64 p.hold, .int .i64 p.calm, .int .i64 p.notice, .int .i64 p.grace]
  | 1, v => v = .agg #[.slice As p.steps.length cs, .int .i64 p.hold, .int .i64 p.calm, .int .i64 p.notice, .int .i64 p.grace]
  | 2, v => v = .agg #[.slice s.Ap p.steps.length s.cp, .int .i64 p.hold, .int .i64 p.calm, .int .i64 p.notice, .int .i64 p.grace]
  | 3, v => v = .pointer (some ⟨s.b13, 0, none⟩)
  | 4, v => v = .pointer (some ⟨s.b14, 0, none⟩)
  | _, _ => True

set_option maxRecDepth 100000 in
set_option maxHeartbeats 4000000 in
theorem steps_main (As : Option Addr) (cs : Nat) (p : Pol) (A : Option Addr) (c : Nat) (days : List Int) (Al : Option Addr) (cl : Nat) (l : List Ord) (day step lo hi : Int) (w : World)
    (hp : PolV w As cs p) (hcs : As = none → p.steps.length = 0 ∧ cs = 0) (hr : Rd w 1 A days.length (ints days)) (hrl : Rd w 3 Al l.length (occs l)) (hcl : Al = none → l.length = 0 ∧ cl = 0)
    (hlong : longB p.steps.length days.length = false) (hll : l.length ≤ 80) (hhi : -9223372036854775808 ≤ hi) :
    Calls Tryz.prog 6 #[.agg #[.slice As p.steps.length cs, .int .i64 p.hold, .int .i64 p.calm, .int .i64 p.notice, .int .i64 p.grace], .slice A days.length c, .slice Al l.length cl, .int .i64 day, .int .i64 step, .agg #[.int .i64 lo, .int .i64 hi]] w fun e w' => e = .returned (.bool true) ∧ Below w.heap.size w w' := by
  have hl1 : p.steps.length ≤ 20 ∧ days.length ≤ 420 := by simp [longB] at hlong; omega
  obtain ⟨hl1, hl2⟩ := hl1
  obtain ⟨W1, hW1⟩ : ∃ W, W = w.alloc (.cells #[.slice As p.steps.length cs, .int .i64 p.hold, .int .i64 p.calm, .int .i64 p.notice, .int .i64 p.grace] 25) := ⟨_, rfl⟩
  obtain ⟨ob, hob⟩ : ∃ ob, ob = w.heap.size := ⟨_, rfl⟩
  obtain ⟨W, hW⟩ : ∃ W, W = W1.alloc (.cells #[.int .i64 lo, .int .i64 hi] 33) := ⟨_, rfl⟩
  obtain ⟨vb, hvb⟩ : ∃ vb, vb = w.heap.size + 1 := ⟨_, rfl⟩
  have hoh : W.heap[ob]? = some (.cells #[.slice As p.steps.length cs, .int .i64 p.hold, .int .i64 p.calm, .int .i64 p.notice, .int .i64 p.grace] 25 (0, 0)) := by rw [hW, hW1, hob]; exact heap_alloc' (heap_alloc_new _ _) _
  have hvh : W.heap[vb]? = some (.cells #[.int .i64 lo, .int .i64 hi] 33 (0, 0)) := by rw [hW, hvb, show w.heap.size + 1 = W1.heap.size from by rw [hW1]; simp]; exact heap_alloc_new _ _
  have bW : Below w.heap.size w W := by rw [hW, hW1]; exact ((Below.refl _ _).alloc (Nat.le_refl _) _).alloc (by simp) _
  have hpW : PolV W As cs p := ⟨hp.1, hp.2.1, hp.2.2.below bW⟩
  have hrW := hr.below bW
  have hrlW := hrl.below bW
  have o0 := (cell_of_heap hoh 0).trans rfl
  have o1 := (cell_of_heap hoh 1).trans rfl
  have o2 := (cell_of_heap hoh 2).trans rfl
  have o3 := (cell_of_heap hoh 3).trans rfl
  have o4 := (cell_of_heap hoh 4).trans rfl
  have zo := heap_lt hoh
  have k1 := long_any (.int .i64 p.hold) (.int .i64 p.calm) (.int .i64 p.notice) (.int .i64 p.grace) As p.steps.length cs days.length W
  rw [hlong] at k1
  have HP := Lib.hid (And.intro bW (And.intro hoh (And.intro hvh (And.intro hpW (And.intro hrW (And.intro hrlW (And.intro k1 (And.intro hcs hcl))))))))
  clear hp hr hrl bW hoh hvh hpW hrW hrlW k1 hlong hcs hcl
  go_enter Tryz.func6, Tryz.ntmps6
  go_upto_region 1 with fail
  rw [← hvb, ← hob, ← hW1, ← hW]
  clear hW hob hW1 hvb
  go_wp2_with fail
  refine HP.out.2.2.2.2.2.2.1.mono ?_
  rintro e w1 ⟨rfl, b1⟩
  have hoh := (b1.block _ (heap_lt HP.out.2.1)).trans HP.out.2.1
  have hvh := (b1.block _ (heap_lt HP.out.2.2.1)).trans HP.out.2.2.1
  have H1 := Lib.hid (And.intro (HP.out.1.trans (b1.mono HP.out.1.size)) (And.intro hoh (And.intro hvh (And.intro (show PolV w1 As cs p from ⟨HP.out.2.2.2.1.1, HP.out.2.2.2.1.2.1, HP.out.2.2.2.1.2.2.below b1⟩) (And.intro (HP.out.2.2.2.2.1.below b1) (HP.out.2.2.2.2.2.1.below b1))))))
  have hll' : ¬ (80 : Int) < (l.length : Int) := by omega
  have hll2 : ¬ 80 < l.length := by omega
  clear o0 o1 o2 o3 o4 zo b1 hoh hvh
  go_upto_region 3 with fail
  have o0 := (cell_of_heap H1.out.2.1 0).trans rfl
  have o1 := (cell_of_heap H1.out.2.1 1).trans rfl
  have o2 := (cell_of_heap H1.out.2.1 2).trans rfl
  have o3 := (cell_of_heap H1.out.2.1 3).trans rfl
  have o4 := (cell_of_heap H1.out.2.1 4).trans rfl
  have zo := heap_lt H1.out.2.1
  go_cut [13, 14] (fun x y wx => ∃ b13 b14 Ap cp, x = .pointer (some ⟨b13, 0, none⟩) ∧ y = .pointer (some ⟨b14, 0, none⟩) ∧ QR w1 wx b13 b14 As cs p Ap cp)
  case first =>
    refine wp_region_steps (σ := RgS) (by kernel_rfl) (by kernel_rfl) (fun sg jx vx _ => StV As cs p sg jx vx) (fun sg ly wx => QW 2 3 4 5 6 w1 As cs p sg ly wx) ⟨0, 0, 0, none⟩ ?_ ?_ ?_
    · exact ⟨(Below.refl _ _).drew, (fun h => by cases h), (fun h => by cases h), (fun h => by cases h), (fun h => by cases h)⟩
    · simp only [AllFrom, Nat.zero_add, Nat.reduceAdd]
      refine ⟨?_, ?_, ?_, ?_, ?_, ?_, ?_, trivial⟩
      · refine step_pure fun sg ly a wr hl hd hW hF => ?_
        have et6 := hF.old 6 (by kernel_rfl)
        simp [Act.eval] at et6
        have hh := (hW.bel.block _ zo).trans H1.out.2.1
        have o0 := (cell_of_heap hh 0).trans rfl
        have o1 := (cell_of_heap hh 1).trans rfl
        have o2 := (cell_of_heap hh 2).trans rfl
        have o3 := (cell_of_heap hh 3).trans rfl
        have o4 := (cell_of_heap hh 4).trans rfl
        exact ⟨hW.other _ (by decide), _, by go_simp, rfl⟩
      · refine step_pure fun sg ly a wr hl hd hW hF => ?_
        have et6 := hF.old 6 (by kernel_rfl)
        simp [Act.eval] at et6
        have hh := (hW.bel.block _ zo).trans H1.out.2.1
        have o0 := (cell_of_heap hh 0).trans rfl
        have o1 := (cell_of_heap hh 1).trans rfl
        have o2 := (cell_of_heap hh 2).trans rfl
        have o3 := (cell_of_heap hh 3).trans rfl
        have o4 := (cell_of_heap hh 4).trans rfl
        exact ⟨hW.other _ (by decide), _, by go_simp, rfl⟩
      · refine step_call fun sg ly a wr hl hd hW hF => ?_
        simp [Region.binds] at hd
        have et43 := hF.new 1 43 (by simp [hd]) rfl
        simp [StV, Act.eval] at et43
        have n6 := hF.notYet 2 6 hl (by kernel_rfl)
        refine ⟨15, #[.agg #[.slice As p.steps.length cs, .int .i64 p.hold, .int .i64 p.calm, .int .i64 p.notice, .int .i64 p.grace]], by go_simp, ?_⟩
        refine (policy_any As cs p wr ⟨H1.out.2.2.2.1.1, H1.out.2.2.2.1.2.1, H1.out.2.2.2.1.2.2.below hW.bel⟩ (by omega)).mono ?_
        rintro e w2 ⟨Ap, cp, qp, rfl, ow, nw, bw⟩
        refine ⟨_, { sg with Ap := Ap, cp := cp }, rfl, hW.call (by decide) n6 (n := 0) bw ow nw, rfl, ?_⟩
        intro i u hi h
        have i2 : i ≠ 2 := by rintro rfl; rw [hl] at hi; cases hi
        unfold StV at h ⊢
        split at h <;> first | exact h | exact absurd rfl i2
      · refine step_run fun sg ly a wr hl hd hW hF => ?_
        have n5 := hF.notYet 3 5 hl (by kernel_rfl)
        refine ⟨_, wr.alloc (.cells qrZpol 25), { sg with b13 := wr.heap.size }, by go_simp, hW.allocA (by decide) n5, rfl, ?_⟩
        intro i u hi h
        have i2 : i ≠ 3 := by rintro rfl; rw [hl] at hi; cases hi
        unfold StV at h ⊢
        split at h <;> first | exact h | exact absurd rfl i2
      · refine step_run fun sg ly a wr hl hd hW hF => ?_
        have n5 := hF.notYet 4 6 hl (by kernel_rfl)
        refine ⟨_, wr.alloc (.cells qrZpol 65), { sg with b14 := wr.heap.size }, by go_simp, hW.allocB (by decide) n5, rfl, ?_⟩
        intro i u hi h
        have i2 : i ≠ 4 := by rintro rfl; rw [hl] at hi; cases hi
        unfold StV at h ⊢
        split at h <;> first | exact h | exact absurd rfl i2
      · refine step_store rfl fun sg ly a wr hl hd hW hF => ?_
        simp [Region.binds] at hd
        have et42 := hF.new 0 42 (by simp [hd]) rfl
        simp [StV, Act.eval] at et42
        have et13 := hF.new 3 13 (by simp [hd]) rfl
        simp [StV, Act.eval] at et13
        have y3 : ly 3 = true := by simp [hd]
        have hq := (hW.q3 y3).2
        rw [hl] at hq
        obtain ⟨⟨c0, c1, c2, c3, c4⟩, f0, f1, f2, f3, f4⟩ := qrZero hq
        have hn := hW.storeA (by decide) y3 hl
        exact ⟨_, sg, .skip, by go_simp, .inl rfl, hn, fun _ _ _ h => h⟩
      · refine step_store rfl fun sg ly a wr hl hd hW hF => ?_
        simp [Region.binds] at hd
        have et44 := hF.new 2 44 (by simp [hd]) rfl
        simp [StV, Act.eval] at et44
        have et14 := hF.new 4 14 (by simp [hd]) rfl
        simp [StV, Act.eval] at et14
        have y4 : ly 4 = true := by simp [hd]
        have hq := (hW.q4 y4).2
        rw [hl] at hq
        obtain ⟨⟨c0, c1, c2, c3, c4⟩, f0, f1, f2, f3, f4⟩ := qrZero hq
        have hn := hW.storeB (by decide) y4 hl
        exact ⟨_, sg, .skip, by go_simp, .inl rfl, hn, fun _ _ _ h => h⟩
    intro sg a w5 hW hF
    have e13 := hF.new 3 13 (by decide) rfl
    have e14 := hF.new 4 14 (by decide) rfl
    obtain ⟨f, hf, rfl⟩ := hF.lit
    rw [← hf] at e13 e14
    simp only [StV] at e13 e14
    have HQ := Lib.hid (hW.fin rfl rfl rfl rfl rfl)
    clear hf hF hW
    simp only [List.filterMap, List.foldl, List.setIfInBounds_toArray, List.set_cons_succ, List.set_cons_zero, e13, e14]
    clear e13 e14
    go_wp2_with fail
    go_meet
    exact ⟨_, _, _, _, rfl, rfl, HQ.out⟩
  case rest =>
    obtain ⟨b13, b14, Ap, cp, rfl, rfl, hq⟩ := hcut
    clear o0 o1 o2 o3 o4 zo
    have hob := (hq.bel.block _ (heap_lt H1.out.2.1)).trans H1.out.2.1
    have hvb := (hq.bel.block _ (heap_lt H1.out.2.2.1)).trans H1.out.2.2.1
    have o0 := (cell_of_heap hob 0).trans rfl
    have zo := heap_lt hob
    have pvc : PolV wc As cs p := ⟨H1.out.2.2.2.1.1, H1.out.2.2.2.1.2.1, H1.out.2.2.2.1.2.2.below hq.bel⟩
    have HQ := Lib.hid (And.intro hq (And.intro hvb (And.intro pvc (And.intro (H1.out.2.2.2.2.1.below hq.bel) (H1.out.2.2.2.2.2.below hq.bel)))))
    clear hob hvb pvc hq
    go_wp2_with fail
    refine (cloneStp_any As p.steps.length cs (stcs p.steps) wc HQ.out.2.2.1.2.2 (stcs_one _) HP.out.2.2.2.2.2.2.2.1 (by omega)).mono ?_
    rintro e w2 ⟨Ac, cc, qc, rfl, oc, nc, bc⟩
    have h13 := (bc.block _ (heap_lt HQ.out.1.h13)).trans HQ.out.1.h13
    have h14 := (bc.block _ (heap_lt HQ.out.1.h14)).trans HQ.out.1.h14
    have hv2 := (bc.block _ (heap_lt HQ.out.2.1)).trans HQ.out.2.1
    have n13 := HQ.out.1.n13
    have vbn : vb ≠ b13 := by have := heap_lt H1.out.2.2.1; omega
    have hw3 : (w2.setCell ⟨b13, 0, none⟩ (.slice Ac p.steps.length cc)).heap[b13]? = some (.cells #[.slice Ac p.steps.length cc, .int .i64 p.hold, .int .i64 p.calm, .int .i64 p.notice, .int .i64 p.grace] 25 (0, 0)) := heap_set h13 0 _
    have K3 : Keep [b13] w2 (w2.setCell ⟨b13, 0, none⟩ (.slice Ac p.steps.length cc)) := (Keep.refl _ _).setCell (.inl (by simp)) _
    have h14' := (K3.block _ (heap_lt h14) (by simpa using n13.2.2.symm)).trans h14
    have hv2' := (K3.block _ (heap_lt hv2) (by simpa using vbn)).trans hv2
    have c13 := (cell_of_heap h13 0).trans rfl
    have f13 := frozen_of_heap h13 0
    have z13 := heap_lt h13
    have old : ∀ {size n : Nat} {B : Option Addr} {xs : List Value}, Rd w1 size B n xs → Rd w2 size B n xs → Rd (w2.setCell ⟨b13, 0, none⟩ (.slice Ac p.steps.length cc)) size B n xs := fun r1 r2 => by
      refine ⟨r2.1, fun hn => ?_⟩
      obtain ⟨b, off, e, hb, hc⟩ := r2.2 hn
      obtain ⟨b', off', e', hb', _⟩ := r1.2 hn
      rw [e] at e'; injection e' with e'; injection e' with e1
      exact ⟨b, off, e, by have := K3.size; omega, fun j u hu => K3.cell (hc j u hu) (by simp; omega)⟩
    have ra3 := old H1.out.2.2.2.2.1 (HQ.out.2.2.2.1.below bc)
    have rl3 := old H1.out.2.2.2.2.2 (HQ.out.2.2.2.2.below bc)
    have pc3 : PolV (w2.setCell ⟨b13, 0, none⟩ (.slice Ac p.steps.length cc)) Ac cc p := ⟨oc.ge, oc.cap, (oc.setCell (fun hm => by have := nc _ hm; have := heap_lt HQ.out.1.h13; simp only at *; omega) _).rd⟩
    have pp3 : PolV (w2.setCell ⟨b13, 0, none⟩ (.slice Ac p.steps.length cc)) Ap cp p := ⟨HQ.out.1.ge.1, HQ.out.1.ge.2, by
      have r2 := HQ.out.1.rd.below bc
      by_cases hn : p.steps.length = 0
      · exact ⟨r2.1, fun h => by omega⟩
      · exact K3.rd r2 (fun g o e => by simpa using HQ.out.1.off g o e hn)⟩
    have bel3 : Below w.heap.size w (w2.setCell ⟨b13, 0, none⟩ (.slice Ac p.steps.length cc)) := (H1.out.1.trans ((HQ.out.1.bel.trans (bc.mono HQ.out.1.bel.size)).mono H1.out.1.size)).setCell (by have := H1.out.1.size; simp; omega) _
    have H3 := Lib.hid (And.intro hw3 (And.intro h14' (And.intro hv2' (And.intro pc3 (And.intro pp3 (And.intro ra3 (And.intro rl3 bel3)))))))
    clear hw3 h14' hv2' pc3 pp3 ra3 rl3 bel3 old oc nc bc h14 hv2 n13 vbn h13 o0 zo K3
    go_upto_region 5 with fail
    generalize w2.setCell ⟨b13, 0, none⟩ (.slice Ac p.steps.length cc) = w3 at H3 ⊢
    clear c13 f13 z13
    go_wp2_with fail
    refine (copyInts_any A c days w3 H3.out.2.2.2.2.2.1 (by omega)).mono ?_
    rintro e w4 ⟨Ao, co, rfl, ro, hco1, hco2, b4⟩
    have H4 := Lib.hid (And.intro ro (And.intro hco1 (And.intro hco2 b4)))
    clear ro hco1 hco2 b4
    go_wp2_with fail
    refine (cloneOrd_any Al l.length cl (occs l) w4 (H3.out.2.2.2.2.2.2.1.below H4.out.2.2.2) (occs_one _) HP.out.2.2.2.2.2.2.2.2 (by omega)).mono ?_
    rintro e w5 ⟨Aq, cq, qq, rfl, oq, nq, b5⟩
    have b35 : Below w3.heap.size w3 w5 := H4.out.2.2.2.trans (b5.mono H4.out.2.2.2.size)
    have sq : SQ w w5 b13 b14 vb p days l lo hi Ac cc Ap cp Ao co A Aq Al := by
      obtain ⟨g1, g2, g3, g4, g5, g6, g7, g8⟩ := H3.out
      exact ⟨(b35.block _ (heap_lt g1)).trans g1, (b35.block _ (heap_lt g2)).trans g2, (b35.block _ (heap_lt g3)).trans g3, ⟨g4.1, g4.2.1, g4.2.2.below b35⟩, ⟨g5.1, g5.2.1, g5.2.2.below b35⟩, H4.out.1.below b5, g6.below b35, oq.rd, g7.below b35, g8.trans (b35.mono g8.size)⟩
    have hsc := sc_all w b13 b14 vb p days l day step lo hi Ac cc Ap cp Ao co A c Aq cq Al cl (by omega) (by omega) hll ⟨H4.out.2.1, H4.out.2.2.1⟩ hhi
    generalize checkS p = ck, startS p days = er, rDecidedL p days = LD, rForceL p days = LF, rOrdersL p days = LO, (auditR p days l).1 = a1, (auditR p days l).2 = a2, (witR p days day).1 = x0, (witR p days day).2.1 = x1, (witR p days day).2.2 = x2, shE p days day step = sE, shB p days day step lo hi = sB at hsc
    have S5 := Lib.hid sq
    have C := Lib.hid hsc
    clear oq nq b5 b35 sq hsc
    go_upto_region 6 with fail
    obtain ⟨⟨a0, a1, a2, a3, a4, za⟩, ⟨b0, b1, b2, b3, b4, zb⟩, v0, v1, zv⟩ := S5.out.cells
    have KC : ∀ {b o : Nat} {u : Value}, w5.cell? ⟨b, o, none⟩ = some u → ∀ w', Below w5.heap.size w5 w' → w'.cell? ⟨b, o, none⟩ = some u := fun h w' hb => (hb.cell (World.block_lt_of_cell? w5 _ h)).trans h
    have a0' := KC a0
    have a1' := KC a1
    have a2' := KC a2
    have a3' := KC a3
    have a4' := KC a4
    have b0' := KC b0
    have b1' := KC b1
    have b2' := KC b2
    have b3' := KC b3
    have b4' := KC b4
    clear KC a0 a1 a2 a3 a4 za b0 b1 b2 b3 b4 zb v0 v1 zv
    go_region_held3 (fun w' => Below w5.heap.size w5 w') (first | exact (Below.refl _ _).drew | assumption)
      (first
        | (go_at_call 21
           refine (C.out.chk _ (S5.out.below (Below.refl _ _).drew)).mono ?_
           rintro e w6 ⟨rfl, b6⟩
           have B6 : Below w5.heap.size w5 w6 := (Below.refl _ _).drew.trans b6
           clear b6)
        | (go_at_call 14
           refine (C.out.rchk _ (S5.out.below B6)).mono ?_
           rintro e w7 ⟨rfl, b7⟩
           have B7 : Below w5.heap.size w5 w7 := B6.trans (b7.mono B6.size)
           clear b7))
    have S7 := Lib.hid (S5.out.below B7)
    clear B6 B7 a0' a1' a2' a3' a4' b0' b1' b2' b3' b4'
    obtain ⟨⟨a0, a1, a2, a3, a4, za⟩, ⟨b0, b1, b2, b3, b4, zb⟩, v0, v1, zv⟩ := S7.out.cells
    go_wp2_with fail
    refine (C.out.dec _ S7.out).mono ?_
    rintro e w8 ⟨D1, d1, rfl, r1, bn⟩
    have S8 := Lib.hid (S7.out.below bn)
    have R1 := Lib.hid r1
    clear r1
    clear a0 a1 a2 a3 a4 za b0 b1 b2 b3 b4 zb v0 v1 zv bn
    obtain ⟨⟨a0, a1, a2, a3, a4, za⟩, ⟨b0, b1, b2, b3, b4, zb⟩, v0, v1, zv⟩ := S8.out.cells
    go_wp2_with fail
    refine (C.out.rdec _ S8.out).mono ?_
    rintro e w9 ⟨D2, d2, rfl, r2, bn⟩
    have S9 := Lib.hid (S8.out.below bn)
    have R12 := Lib.hid (And.intro (R1.out.below bn) r2)
    clear r2 R1
    clear a0 a1 a2 a3 a4 za b0 b1 b2 b3 b4 zb v0 v1 zv bn
    obtain ⟨⟨a0, a1, a2, a3, a4, za⟩, ⟨b0, b1, b2, b3, b4, zb⟩, v0, v1, zv⟩ := S9.out.cells
    go_wp2_with fail
    refine (sameInts_any D1 d1 LD D2 d2 w9 R12.out.1 R12.out.2 C.out.nD).mono ?_
    rintro e w10 ⟨rfl, bn⟩
    have S10 := Lib.hid (S9.out.below bn)
    clear a0 a1 a2 a3 a4 za b0 b1 b2 b3 b4 zb v0 v1 zv bn R12
    obtain ⟨⟨a0, a1, a2, a3, a4, za⟩, ⟨b0, b1, b2, b3, b4, zb⟩, v0, v1, zv⟩ := S10.out.cells
    go_wp2_with fail
    refine (C.out.for_ _ S10.out).mono ?_
    rintro e w11 ⟨D1, d1, rfl, r1, bn⟩
    have S11 := Lib.hid (S10.out.below bn)
    have R1 := Lib.hid r1
    clear r1
    clear a0 a1 a2 a3 a4 za b0 b1 b2 b3 b4 zb v0 v1 zv bn
    obtain ⟨⟨a0, a1, a2, a3, a4, za⟩, ⟨b0, b1, b2, b3, b4, zb⟩, v0, v1, zv⟩ := S11.out.cells
    go_wp2_with fail
    refine (C.out.rfor _ S11.out).mono ?_
    rintro e w12 ⟨D2, d2, rfl, r2, bn⟩
    have S12 := Lib.hid (S11.out.below bn)
    have R12 := Lib.hid (And.intro (R1.out.below bn) r2)
    clear r2 R1
    clear a0 a1 a2 a3 a4 za b0 b1 b2 b3 b4 zb v0 v1 zv bn
    obtain ⟨⟨a0, a1, a2, a3, a4, za⟩, ⟨b0, b1, b2, b3, b4, zb⟩, v0, v1, zv⟩ := S12.out.cells
    go_wp2_with fail
    refine (sameInts_any D1 d1 LF D2 d2 w12 R12.out.1 R12.out.2 C.out.nF).mono ?_
    rintro e w13 ⟨rfl, bn⟩
    have S13 := Lib.hid (S12.out.below bn)
    clear a0 a1 a2 a3 a4 za b0 b1 b2 b3 b4 zb v0 v1 zv bn R12
    obtain ⟨⟨a0, a1, a2, a3, a4, za⟩, ⟨b0, b1, b2, b3, b4, zb⟩, v0, v1, zv⟩ := S13.out.cells
    go_wp2_with fail
    refine (C.out.ord _ S13.out).mono ?_
    rintro e w14 ⟨D1, d1, rfl, r1, bn⟩
    have S14 := Lib.hid (S13.out.below bn)
    have R1 := Lib.hid r1
    clear r1
    clear a0 a1 a2 a3 a4 za b0 b1 b2 b3 b4 zb v0 v1 zv bn
    obtain ⟨⟨a0, a1, a2, a3, a4, za⟩, ⟨b0, b1, b2, b3, b4, zb⟩, v0, v1, zv⟩ := S14.out.cells
    go_wp2_with fail
    refine (C.out.rord _ S14.out).mono ?_
    rintro e w15 ⟨D2, d2, rfl, r2, bn⟩
    have S15 := Lib.hid (S14.out.below bn)
    have R12 := Lib.hid (And.intro (R1.out.below bn) r2)
    clear r2 R1
    clear a0 a1 a2 a3 a4 za b0 b1 b2 b3 b4 zb v0 v1 zv bn
    obtain ⟨⟨a0, a1, a2, a3, a4, za⟩, ⟨b0, b1, b2, b3, b4, zb⟩, v0, v1, zv⟩ := S15.out.cells
    go_wp2_with fail
    refine (eqFuncOrd_same D1 d1 LO D2 d2 w15 R12.out.1 R12.out.2 C.out.nO).mono ?_
    rintro e w16 ⟨rfl, bn⟩
    have S16 := Lib.hid (S15.out.below bn)
    clear a0 a1 a2 a3 a4 za b0 b1 b2 b3 b4 zb v0 v1 zv bn R12
    obtain ⟨⟨a0, a1, a2, a3, a4, za⟩, ⟨b0, b1, b2, b3, b4, zb⟩, v0, v1, zv⟩ := S16.out.cells
    clear a0 a1 a2 a3 a4 za b0 b1 b2 b3 b4 zb v0 v1 zv
    go_wp2_with fail
    obtain ⟨i0, hi', hz0, hz1, hz2⟩ := info_parts infoROrd
    go_loopw [23, 123] (fun o i wr => ∃ (k : Nat) (Ax : Option Addr) (cx : Nat) (q : List Nat), k ≤ l.length ∧ i = .int .i64 k ∧ o = .slice Ax k cx ∧ OwnS wr 81 3 Ax k cx (occs (l.take k)) q ∧ (∀ g ∈ q, w16.heap.size ≤ g) ∧ Keep [] w16 wr) (fun _ i _ => l.length - (intOf i).toNat)
    case atStart => exact ⟨0, none, 0, [], Nat.zero_le _, rfl, rfl, by simpa [occs] using OwnS.nil _ _ _, by simp, Keep.refl _ _⟩
    case round =>
      obtain ⟨k, Ax, cx, q, hk, rfl, rfl, hown, hnew, hK⟩ := hrel
      have HO := Lib.hid (And.intro hown (And.intro hnew hK))
      clear hown hnew hK
      by_cases hlt : k < l.length
      · obtain ⟨b, off, rfl, zb, hc⟩ := (S16.out.rl.below (HO.out.2.2.below (Nat.le_refl _) (by simp))).2 (by omega)
        obtain ⟨x, hx⟩ : ∃ x, x = l[k] := ⟨_, rfl⟩
        obtain ⟨s0, s1, s2⟩ := occs_get hlt
        rw [← hx] at s0 s1 s2
        have c0 := hc _ _ s0
        have c1 : wr.cell? ⟨b, off + k*3 + 1, none⟩ = _ := hc _ _ s1
        have c2 : wr.cell? ⟨b, off + k*3 + 2, none⟩ = _ := hc _ _ s2
        have HX := Lib.hid hx
        have n2 : (k : Int) < (l.length : Int) := by omega
        clear hc s0 s1 s2 hx zb
        go_wp2_with (at_builtin
                     refine wpList_append_S (size := 3) rfl (.tmp 127) (.tmp 129) 77 rfl i0 _ 24 Tryz.underlying77 hi' hz0 hz1 (by decide) hz2 rfl (A := Ax) (n := k) (c := cx) (xs := occs (l.take k)) (fp := q) (by simp [Act.eval]) ⟨wr.heap.size + 1, 0, none⟩ (by simp [Act.eval]) [.int .i64 x.iss, .int .i64 x.frm, .int .i64 x.stp] ((HO.out.1.alloc _).alloc _) rfl ?_ (by simp [Value.oneCell']) (by omega) (by omega) ?_
                     · have := occ_cells (wr.alloc (.cells #[.int .i64 x.iss, .int .i64 x.frm, .int .i64 x.stp] 40)) x 81
                       rwa [World.size_alloc] at this
                     intro g c' wz h1 h2 h3 h4
                     have HG := Lib.hid (And.intro h1 (And.intro h2 h4))
                     clear h1 h2 h3 h4)
        go_roundw
        case measure => simp [intOf]; omega
        case rel =>
          obtain ⟨h1, h2, h4⟩ := HG.out
          refine ⟨k + 1, some ⟨g, 0, none⟩, c', [g], by omega, by go_num, rfl, ?_, fun y hy => ?_, ((HO.out.2.2.alloc _).alloc _).trans h4 (fun z hz => .inr (HO.out.2.1 z hz))⟩
          · rw [List.take_succ_eq_append_getElem hlt, occs_snoc, ← HX.out]; exact h1
          · rw [List.mem_singleton.1 hy]
            rcases h2 with h2 | h2
            · exact HO.out.2.1 _ h2
            · have := HO.out.2.2.size; simp at h2; omega
      · obtain rfl : k = l.length := by omega
        clear hi' hz0 hz1 hz2
        have S17 := Lib.hid (S16.out.below (HO.out.2.2.below (Nat.le_refl _) (by simp)))
        have RX := Lib.hid (show Rd wr 3 Ax l.length (occs l) from by have := HO.out.1.rd; rwa [List.take_of_length_le (Nat.le_refl _)] at this)
        clear hlt hk HO
        obtain ⟨w17, rfl⟩ : ∃ W, W = wr := ⟨_, rfl⟩
        obtain ⟨⟨a0, a1, a2, a3, a4, za⟩, ⟨b0, b1, b2, b3, b4, zb⟩, v0, v1, zv⟩ := S17.out.cells
        go_wp2_with fail
        refine (C.out.aud _ S17.out).mono ?_
        rintro e w18 ⟨rfl, bn⟩
        have S18 := Lib.hid (S17.out.below bn)
        have RX := Lib.hid (RX.out.below bn)
        clear a0 a1 a2 a3 a4 za b0 b1 b2 b3 b4 zb v0 v1 zv bn
        obtain ⟨⟨a0, a1, a2, a3, a4, za⟩, ⟨b0, b1, b2, b3, b4, zb⟩, v0, v1, zv⟩ := S18.out.cells
        go_wp2_with fail
        refine (C.out.raud _ Ax cx S18.out RX.out).mono ?_
        rintro e w19 ⟨rfl, bn⟩
        have S19 := Lib.hid (S18.out.below bn)
        clear a0 a1 a2 a3 a4 za b0 b1 b2 b3 b4 zb v0 v1 zv bn RX
        obtain ⟨⟨a0, a1, a2, a3, a4, za⟩, ⟨b0, b1, b2, b3, b4, zb⟩, v0, v1, zv⟩ := S19.out.cells
        go_wp2_with fail
        refine (C.out.wit _ S19.out).mono ?_
        rintro e w20 ⟨rfl, bn⟩
        have S20 := Lib.hid (S19.out.below bn)
        clear a0 a1 a2 a3 a4 za b0 b1 b2 b3 b4 zb v0 v1 zv bn
        obtain ⟨⟨a0, a1, a2, a3, a4, za⟩, ⟨b0, b1, b2, b3, b4, zb⟩, v0, v1, zv⟩ := S20.out.cells
        clear a0 a1 a2 a3 a4 za b0 b1 b2 b3 b4 zb v0 v1 zv
        go_upto_region 31 with fail
        have S21 := Lib.hid (S20.out.below ((Below.refl w20.heap.size w20).alloc (Nat.le_refl _) (.cells #[.int .i64 x1, .int .i64 x2] 33)))
        have hs1 : (w20.alloc (.cells #[.int .i64 x1, .int .i64 x2] 33)).heap[w20.heap.size]? = some (.cells #[.int .i64 x1, .int .i64 x2] 33 (0, 0)) := heap_alloc_new _ _
        generalize w20.alloc (.cells #[.int .i64 x1, .int .i64 x2] 33) = w21 at S21 hs1 ⊢
        generalize w20.heap.size = sb1 at hs1 ⊢
        have G1 := Lib.hid hs1
        clear hs1 S20
        obtain ⟨⟨a0, a1, a2, a3, a4, za⟩, ⟨b0, b1, b2, b3, b4, zb⟩, v0, v1, zv⟩ := S21.out.cells
        go_wp2_with fail
        refine (C.out.rwit _ S21.out).mono ?_
        rintro e w22 ⟨rfl, bn⟩
        have S22 := Lib.hid (S21.out.below bn)
        have G1 := Lib.hid ((bn.block _ (heap_lt G1.out)).trans G1.out)
        clear a0 a1 a2 a3 a4 za b0 b1 b2 b3 b4 zb v0 v1 zv bn
        obtain ⟨⟨a0, a1, a2, a3, a4, za⟩, ⟨b0, b1, b2, b3, b4, zb⟩, v0, v1, zv⟩ := S22.out.cells
        have g0 := (cell_of_heap G1.out 0).trans rfl
        have g1 := (cell_of_heap G1.out 1).trans rfl
        have zg := heap_lt G1.out
        have hnx : ∀ w, (binOp .neq 33 (.agg #[.int .i64 x1, .int .i64 x2]) (.agg #[.int .i64 x1, .int .i64 x2])).run Tryz.prog w = .ok (.bool false) w := fun w => by have := span_neq (x1, x2) (x1, x2) w; simpa using this
        go_upto_region 34 with fail
        clear g0 g1 zg hnx a0 a1 a2 a3 a4 za b0 b1 b2 b3 b4 zb v0 v1 zv
        have S23 := Lib.hid (S22.out.below ((Below.refl w22.heap.size w22).alloc (Nat.le_refl _) (.cells #[.int .i64 x1, .int .i64 x2] 33)))
        generalize w22.alloc (.cells #[.int .i64 x1, .int .i64 x2] 33) = w23 at S23 ⊢
        generalize w22.heap.size = sb2
        clear S22 G1
        obtain ⟨⟨a0, a1, a2, a3, a4, za⟩, ⟨b0, b1, b2, b3, b4, zb⟩, v0, v1, zv⟩ := S23.out.cells
        go_wp2_with fail
        refine (C.out.shw _ S23.out).mono ?_
        rintro e w24 ⟨rfl, bn⟩
        have S24 := Lib.hid (S23.out.below bn)
        clear a0 a1 a2 a3 a4 za b0 b1 b2 b3 b4 zb v0 v1 zv bn
        obtain ⟨⟨a0, a1, a2, a3, a4, za⟩, ⟨b0, b1, b2, b3, b4, zb⟩, v0, v1, zv⟩ := S24.out.cells
        go_wp2_with fail
        refine (C.out.rshw _ S24.out).mono ?_
        rintro e w25 ⟨rfl, bn⟩
        have S25 := Lib.hid (S24.out.below bn)
        clear a0 a1 a2 a3 a4 za b0 b1 b2 b3 b4 zb v0 v1 zv bn
        obtain ⟨⟨a0, a1, a2, a3, a4, za⟩, ⟨b0, b1, b2, b3, b4, zb⟩, v0, v1, zv⟩ := S25.out.cells
        go_wp2_with fail
        refine (C.out.sam _ S25.out).mono ?_
        rintro e w26 ⟨rfl, bn⟩
        have S26 := Lib.hid (S25.out.below bn)
        clear a0 a1 a2 a3 a4 za b0 b1 b2 b3 b4 zb v0 v1 zv bn
        obtain ⟨⟨a0, a1, a2, a3, a4, za⟩, ⟨b0, b1, b2, b3, b4, zb⟩, v0, v1, zv⟩ := S26.out.cells
        go_wp2_with fail
        refine (C.out.smi _ S26.out).mono ?_
        rintro e w27 ⟨rfl, bn⟩
        have S27 := Lib.hid (S26.out.below bn)
        clear a0 a1 a2 a3 a4 za b0 b1 b2 b3 b4 zb v0 v1 zv bn
        obtain ⟨⟨a0, a1, a2, a3, a4, za⟩, ⟨b0, b1, b2, b3, b4, zb⟩, v0, v1, zv⟩ := S27.out.cells
        go_wp2_with fail
        refine (C.out.smo _ S27.out).mono ?_
        rintro e w28 ⟨rfl, bn⟩
        have S28 := Lib.hid (S27.out.below bn)
        clear a0 a1 a2 a3 a4 za b0 b1 b2 b3 b4 zb v0 v1 zv bn
        obtain ⟨⟨a0, a1, a2, a3, a4, za⟩, ⟨b0, b1, b2, b3, b4, zb⟩, v0, v1, zv⟩ := S28.out.cells
        clear a0 a1 a2 a3 a4 za b0 b1 b2 b3 b4 zb v0 v1 zv
        go_wp2_with fail
        refine (awake_any _).mono ?_
        rintro e wl ⟨rfl, bn⟩
        have BL := Lib.hid (S28.out.bel.trans (bn.mono S28.out.bel.size))
        clear bn
        go_wp2_with fail
        go_ret
        exact ⟨by simp, BL.out⟩
end Go.Proofs.YtbgnkljjgfcngaaGreat
/- RestrictSteps: all inputs -/
namespace Go.Proofs.YtbgnkljjgfcngaaGreat
open Go Go.RowKit Sp
set_option linter.unusedVariables false

set_option maxRecDepth 100000 in
set_option maxHeartbeats 4000000 in
theorem steps_long (As : Option Addr) (cs : Nat) (p : Pol) (A : Option Addr) (c : Nat) (days : List Int) (Al : Option Addr) (cl n : Nat) (day step lo hi : Int) (w : World) (h : longB p.steps.length days.length = true ∨ 80 < n) :
    Calls Tryz.prog 6 #[.agg #[.slice As p.steps.length cs, .int .i64 p.hold, .int .i64 p.calm, .int .i64 p.notice, .int .i64 p.grace], .slice A days.length c, .slice Al n cl, .int .i64 day, .int .i64 step, .agg #[.int .i64 lo, .int .i64 hi]] w fun e w' => e = .returned (.bool true) ∧ Below w.heap.size w w' := by
  obtain ⟨W1, hW1⟩ : ∃ W, W = w.alloc (.cells #[.slice As p.steps.length cs, .int .i64 p.hold, .int .i64 p.calm, .int .i64 p.notice, .int .i64 p.grace] 25) := ⟨_, rfl⟩
  obtain ⟨W, hW⟩ : ∃ W, W = W1.alloc (.cells #[.int .i64 lo, .int .i64 hi] 33) := ⟨_, rfl⟩
  have bW : Below w.heap.size w W := by rw [hW, hW1]; exact ((Below.refl _ _).alloc (Nat.le_refl _) _).alloc (by simp) _
  obtain ⟨ob, hob⟩ : ∃ ob, ob = w.heap.size := ⟨_, rfl⟩
  have hoh : W.heap[ob]? = some (.cells #[.slice As p.steps.length cs, .int .i64 p.hold, .int .i64 p.calm, .int .i64 p.notice, .int .i64 p.grace] 25 (0, 0)) := by rw [hW, hW1, hob]; exact heap_alloc' (heap_alloc_new _ _) _
  obtain ⟨lb, hlb⟩ : ∃ b, b = longB p.steps.length days.length := ⟨_, rfl⟩
  have k1 := long_any (.int .i64 p.hold) (.int .i64 p.calm) (.int .i64 p.notice) (.int .i64 p.grace) As p.steps.length cs days.length W
  rw [← hlb] at k1 h
  have o0 := (cell_of_heap hoh 0).trans rfl
  have o1 := (cell_of_heap hoh 1).trans rfl
  have o2 := (cell_of_heap hoh 2).trans rfl
  have o3 := (cell_of_heap hoh 3).trans rfl
  have o4 := (cell_of_heap hoh 4).trans rfl
  have zo := heap_lt hoh
  have HP := Lib.hid (And.intro bW k1)
  clear bW hoh k1 hlb
  cases lb
  · have h1 : 80 < n := by rcases h with h | h; cases h; exact h
    have h2 : (80 : Int) < (n : Int) := by omega
    clear h
    go_enter Tryz.func6, Tryz.ntmps6
    go_upto_region 1 with fail
    rw [← hob, ← hW1, ← hW]
    clear hW hob hW1
    go_wp2_with fail
    refine HP.out.2.mono ?_
    rintro e w1 ⟨rfl, b1⟩
    have H1 := Lib.hid (HP.out.1.trans (b1.mono HP.out.1.size))
    clear b1 o0 o1 o2 o3 o4 zo
    go_wp2_with fail
    refine (awake_any _).mono ?_
    rintro e wl ⟨rfl, bn⟩
    have BL := Lib.hid (H1.out.trans (bn.mono H1.out.size))
    clear bn
    go_wp2_with fail
    go_ret
    exact ⟨rfl, BL.out⟩
  · clear h
    go_enter Tryz.func6, Tryz.ntmps6
    go_upto_region 1 with fail
    rw [← hob, ← hW1, ← hW]
    clear hW hob hW1
    go_wp2_with fail
    refine HP.out.2.mono ?_
    rintro e w1 ⟨rfl, b1⟩
    have H1 := Lib.hid (HP.out.1.trans (b1.mono HP.out.1.size))
    clear b1 o0 o1 o2 o3 o4 zo
    go_wp2_with fail
    refine (awake_any _).mono ?_
    rintro e wl ⟨rfl, bn⟩
    have BL := Lib.hid (H1.out.trans (bn.mono H1.out.size))
    clear bn
    go_wp2_with fail
    go_ret
    exact ⟨rfl, BL.out⟩

theorem steps_any (As : Option Addr) (cs : Nat) (p : Pol) (A : Option Addr) (c : Nat) (days : List Int) (Al : Option Addr) (cl : Nat) (l : List Ord) (day step lo hi : Int) (w : World)
    (hp : PolV w As cs p) (hcs : As = none → p.steps.length = 0 ∧ cs = 0) (hr : Rd w 1 A days.length (ints days)) (hrl : Rd w 3 Al l.length (occs l)) (hcl : Al = none → l.length = 0 ∧ cl = 0) (hhi : -9223372036854775808 ≤ hi) :
    Calls Tryz.prog 6 #[.agg #[.slice As p.steps.length cs, .int .i64 p.hold, .int .i64 p.calm, .int .i64 p.notice, .int .i64 p.grace], .slice A days.length c, .slice Al l.length cl, .int .i64 day, .int .i64 step, .agg #[.int .i64 lo, .int .i64 hi]] w fun e w' => e = .returned (.bool true) ∧ Below w.heap.size w w' := by
  by_cases h1 : longB p.steps.length days.length = true
  · exact steps_long As cs p A c days Al cl l.length day step lo hi w (.inl h1)
  · by_cases h2 : 80 < l.length
    · exact steps_long As cs p A c days Al cl l.length day step lo hi w (.inr h2)
    · exact steps_main As cs p A c days Al cl l day step lo hi w hp hcs hr hrl hcl (by simpa using h1) (by omega) hhi
end Go.Proofs.YtbgnkljjgfcngaaGreat
