/- RestrictSteps: what is kept from call to call, and the calls, with letters for their answers -/
import Derived.Test.YtfmhlnfcbbpfeaaRBp11
import Derived.Test.YtfmhlnfcbbpfeaaRBp17
import Derived.Test.YtfmhlnfcbbpfeaaRBp18
import Derived.Test.YtfmhlnfcbbpfeaaRBp14
import Derived.Test.YtfmhlnfcbbpfeaaRBp16
import Derived.Test.YtfmhlnfcbbpfeaaRBp10
import Derived.Test.YtfmhlnfcbbpfeaaRBp8
import Derived.Test.YtfmhlnfcbbpfeaaRBp2
import Derived.IntWalk
import Derived.Test.YtfmhlnfcbbpfeaaRBp6
import Derived.Deep.DeepCutAuto
set_option linter.unusedVariables false
namespace Go.Proofs.Ytfmhlnfcbbpfeaa
open Go Go.RowKit Sp
set_option linter.unusedVariables false

theorem stcs_one (l : List Stp) : ∀ u ∈ stcs l, u.oneCell' = true := by
  intro u hu
  simp only [stcs, stc, List.mem_flatMap] at hu
  obtain ⟨x, _, hx⟩ := hu
  simp at hx
  rcases hx with rfl | rfl | rfl | rfl <;> rfl
theorem occs_one (l : List Ord) : ∀ u ∈ occs l, u.oneCell' = true := by
  intro u hu
  simp only [occs, occ, List.mem_flatMap] at hu
  obtain ⟨x, _, hx⟩ := hu
  simp at hx
  rcases hx with rfl | rfl | rfl <;> rfl

/-- the two policies in their blocks, own copies and originals of the history and of the orders, the span -/
structure SQ (w X : World) (b13 b14 vb : Nat) (p : Pol) (days : List Int) (l : List Ord) (lo hi : Int) (Ac : Option Addr) (cc : Nat) (Ap : Option Addr) (cp : Nat) (Ao : Option Addr) (co : Nat) (A Aq Al : Option Addr) : Prop where
  h13 : X.heap[b13]? = some (.cells #[.slice Ac p.steps.length cc, .int .i64 p.hold, .int .i64 p.calm, .int .i64 p.notice, .int .i64 p.grace] 25 (0, 0))
  h14 : X.heap[b14]? = some (.cells #[.slice Ap p.steps.length cp, .int .i64 p.hold, .int .i64 p.calm, .int .i64 p.notice, .int .i64 p.grace] 70 (0, 0))
  hv : X.heap[vb]? = some (.cells #[.int .i64 lo, .int .i64 hi] 42 (0, 0))
  pq : PolV X Ac cc p
  pr : PolV X Ap cp p
  ro : Rd X 1 Ao days.length (ints days)
  ra : Rd X 1 A days.length (ints days)
  rq : Rd X 3 Aq l.length (occs l)
  rl : Rd X 3 Al l.length (occs l)
  bel : Below w.heap.size w X
section
variable {w X Y : World} {b13 b14 vb : Nat} {p : Pol} {days : List Int} {l : List Ord} {lo hi : Int} {Ac : Option Addr} {cc : Nat} {Ap : Option Addr} {cp : Nat} {Ao : Option Addr} {co : Nat} {A Aq Al : Option Addr}
theorem SQ.below (h : SQ w X b13 b14 vb p days l lo hi Ac cc Ap cp Ao co A Aq Al) (hb : Below X.heap.size X Y) : SQ w Y b13 b14 vb p days l lo hi Ac cc Ap cp Ao co A Aq Al :=
  ⟨(hb.block _ (heap_lt h.h13)).trans h.h13, (hb.block _ (heap_lt h.h14)).trans h.h14, (hb.block _ (heap_lt h.hv)).trans h.hv, ⟨h.pq.1, h.pq.2.1, h.pq.2.2.below hb⟩, ⟨h.pr.1, h.pr.2.1, h.pr.2.2.below hb⟩, h.ro.below hb, h.ra.below hb, h.rq.below hb, h.rl.below hb, h.bel.trans (hb.mono h.bel.size)⟩
theorem SQ.cells (h : SQ w X b13 b14 vb p days l lo hi Ac cc Ap cp Ao co A Aq Al) : (X.cell? ⟨b13, 0, none⟩ = some (.slice Ac p.steps.length cc) ∧ X.cell? ⟨b13, 1, none⟩ = some (.int .i64 p.hold) ∧ X.cell? ⟨b13, 2, none⟩ = some (.int .i64 p.calm) ∧ X.cell? ⟨b13, 3, none⟩ = some (.int .i64 p.notice) ∧ X.cell? ⟨b13, 4, none⟩ = some (.int .i64 p.grace) ∧ b13 < X.heap.size) ∧
    (X.cell? ⟨b14, 0, none⟩ = some (.slice Ap p.steps.length cp) ∧ X.cell? ⟨b14, 1, none⟩ = some (.int .i64 p.hold) ∧ X.cell? ⟨b14, 2, none⟩ = some (.int .i64 p.calm) ∧ X.cell? ⟨b14, 3, none⟩ = some (.int .i64 p.notice) ∧ X.cell? ⟨b14, 4, none⟩ = some (.int .i64 p.grace) ∧ b14 < X.heap.size) ∧
    (X.cell? ⟨vb, 0, none⟩ = some (.int .i64 lo) ∧ X.cell? ⟨vb, 1, none⟩ = some (.int .i64 hi) ∧ vb < X.heap.size) :=
  ⟨⟨(cell_of_heap h.h13 0).trans rfl, (cell_of_heap h.h13 1).trans rfl, (cell_of_heap h.h13 2).trans rfl, (cell_of_heap h.h13 3).trans rfl, (cell_of_heap h.h13 4).trans rfl, heap_lt h.h13⟩,
   ⟨(cell_of_heap h.h14 0).trans rfl, (cell_of_heap h.h14 1).trans rfl, (cell_of_heap h.h14 2).trans rfl, (cell_of_heap h.h14 3).trans rfl, (cell_of_heap h.h14 4).trans rfl, heap_lt h.h14⟩,
   (cell_of_heap h.hv 0).trans rfl, (cell_of_heap h.hv 1).trans rfl, heap_lt h.hv⟩
end

abbrev pqV (Ac : Option Addr) (cc : Nat) (p : Pol) : Value := .agg #[.slice Ac p.steps.length cc, .int .i64 p.hold, .int .i64 p.calm, .int .i64 p.notice, .int .i64 p.grace]
/-- the calls' contracts, with letters -/
structure SC (w : World) (b13 b14 vb : Nat) (p : Pol) (days : List Int) (l : List Ord) (day step lo hi : Int) (Ac : Option Addr) (cc : Nat) (Ap : Option Addr) (cp : Nat) (Ao : Option Addr) (co : Nat) (A : Option Addr) (c : Nat) (Aq : Option Addr) (cq : Nat) (Al : Option Addr) (cl : Nat)
    (ck er : Int) (LD LF : List Int) (LO : List Ord) (a1 a2 x0 x1 x2 sE : Int) (sB : Bool) : Prop where
  chk : ∀ X, SQ w X b13 b14 vb p days l lo hi Ac cc Ap cp Ao co A Aq Al → Calls Try.prog 34 #[pqV Ac cc p] X fun e Y => e = .returned (.int .i64 ck) ∧ Below X.heap.size X Y
  rchk : ∀ X, SQ w X b13 b14 vb p days l lo hi Ac cc Ap cp Ao co A Aq Al → Calls Try.prog 35 #[pqV Ap cp p] X fun e Y => e = .returned (.int .i64 ck) ∧ Below X.heap.size X Y
  dec : ∀ X, SQ w X b13 b14 vb p days l lo hi Ac cc Ap cp Ao co A Aq Al → Calls Try.prog 19 #[pqV Ac cc p, .slice Ao days.length co] X fun e Y => ∃ A1 c1, e = .returned (.tuple #[.slice A1 LD.length c1, .int .i64 er]) ∧ Rd Y 1 A1 LD.length (ints LD) ∧ Below X.heap.size X Y
  rdec : ∀ X, SQ w X b13 b14 vb p days l lo hi Ac cc Ap cp Ao co A Aq Al → Calls Try.prog 36 #[pqV Ap cp p, .slice A days.length c] X fun e Y => ∃ A1 c1, e = .returned (.tuple #[.slice A1 LD.length c1, .int .i64 er]) ∧ Rd Y 1 A1 LD.length (ints LD) ∧ Below X.heap.size X Y
  for_ : ∀ X, SQ w X b13 b14 vb p days l lo hi Ac cc Ap cp Ao co A Aq Al → Calls Try.prog 21 #[pqV Ac cc p, .slice Ao days.length co] X fun e Y => ∃ A1 c1, e = .returned (.tuple #[.slice A1 LF.length c1, .int .i64 er]) ∧ Rd Y 1 A1 LF.length (ints LF) ∧ Below X.heap.size X Y
  rfor : ∀ X, SQ w X b13 b14 vb p days l lo hi Ac cc Ap cp Ao co A Aq Al → Calls Try.prog 38 #[pqV Ap cp p, .slice A days.length c] X fun e Y => ∃ A1 c1, e = .returned (.tuple #[.slice A1 LF.length c1, .int .i64 er]) ∧ Rd Y 1 A1 LF.length (ints LF) ∧ Below X.heap.size X Y
  ord : ∀ X, SQ w X b13 b14 vb p days l lo hi Ac cc Ap cp Ao co A Aq Al → Calls Try.prog 22 #[pqV Ac cc p, .slice Ao days.length co] X fun e Y => ∃ A1 c1, e = .returned (.tuple #[.slice A1 LO.length c1, .int .i64 er]) ∧ Rd Y 3 A1 LO.length (occs LO) ∧ Below X.heap.size X Y
  rord : ∀ X, SQ w X b13 b14 vb p days l lo hi Ac cc Ap cp Ao co A Aq Al → Calls Try.prog 39 #[pqV Ap cp p, .slice A days.length c] X fun e Y => ∃ A1 c1, e = .returned (.tuple #[.slice A1 LO.length c1, .int .i64 er]) ∧ Rd Y 3 A1 LO.length (occs LO) ∧ Below X.heap.size X Y
  aud : ∀ X, SQ w X b13 b14 vb p days l lo hi Ac cc Ap cp Ao co A Aq Al → Calls Try.prog 23 #[pqV Ac cc p, .slice Ao days.length co, .slice Aq l.length cq] X fun e Y => e = .returned (.tuple #[.int .i64 a1, .int .i64 a2]) ∧ Below X.heap.size X Y
  raud : ∀ X Ax cx, SQ w X b13 b14 vb p days l lo hi Ac cc Ap cp Ao co A Aq Al → Rd X 3 Ax l.length (occs l) → Calls Try.prog 42 #[pqV Ap cp p, .slice A days.length c, .slice Ax l.length cx] X fun e Y => e = .returned (.tuple #[.int .i64 a1, .int .i64 a2]) ∧ Below X.heap.size X Y
  wit : ∀ X, SQ w X b13 b14 vb p days l lo hi Ac cc Ap cp Ao co A Aq Al → Calls Try.prog 18 #[pqV Ac cc p, .slice Ao days.length co, .int .i64 day] X fun e Y => e = .returned (.tuple #[.agg #[.int .i64 x1, .int .i64 x2], .int .i64 x0]) ∧ Below X.heap.size X Y
  rwit : ∀ X, SQ w X b13 b14 vb p days l lo hi Ac cc Ap cp Ao co A Aq Al → Calls Try.prog 43 #[pqV Ap cp p, .slice A days.length c, .int .i64 day] X fun e Y => e = .returned (.tuple #[.agg #[.int .i64 x1, .int .i64 x2], .int .i64 x0]) ∧ Below X.heap.size X Y
  shw : ∀ X, SQ w X b13 b14 vb p days l lo hi Ac cc Ap cp Ao co A Aq Al → Calls Try.prog 20 #[pqV Ac cc p, .slice Ao days.length co, .int .i64 day, .int .i64 step, .agg #[.int .i64 lo, .int .i64 hi]] X fun e Y => e = .returned (.tuple #[.bool sB, .int .i64 sE]) ∧ Below X.heap.size X Y
  rshw : ∀ X, SQ w X b13 b14 vb p days l lo hi Ac cc Ap cp Ao co A Aq Al → Calls Try.prog 44 #[pqV Ap cp p, .slice A days.length c, .int .i64 day, .int .i64 step, .agg #[.int .i64 lo, .int .i64 hi]] X fun e Y => e = .returned (.tuple #[.bool sB, .int .i64 sE]) ∧ Below X.heap.size X Y
  sam : ∀ X, SQ w X b13 b14 vb p days l lo hi Ac cc Ap cp Ao co A Aq Al → Calls Try.prog 45 #[pqV Ac cc p, pqV Ap cp p] X fun e Y => e = .returned (.bool true) ∧ Below X.heap.size X Y
  smi : ∀ X, SQ w X b13 b14 vb p days l lo hi Ac cc Ap cp Ao co A Aq Al → Calls Try.prog 37 #[.slice Ao days.length co, .slice A days.length c] X fun e Y => e = .returned (.bool true) ∧ Below X.heap.size X Y
  smo : ∀ X, SQ w X b13 b14 vb p days l lo hi Ac cc Ap cp Ao co A Aq Al → Calls Try.prog 46 #[.slice Aq l.length cq, .slice Al l.length cl] X fun e Y => e = .returned (.bool true) ∧ Below X.heap.size X Y
  nD : LD.length ≤ 9223372036854775807
  nF : LF.length ≤ 9223372036854775807
  nO : LO.length ≤ 9223372036854775807

theorem sc_all (w : World) (b13 b14 vb : Nat) (p : Pol) (days : List Int) (l : List Ord) (day step lo hi : Int) (Ac : Option Addr) (cc : Nat) (Ap : Option Addr) (cp : Nat) (Ao : Option Addr) (co : Nat) (A : Option Addr) (c : Nat) (Aq : Option Addr) (cq : Nat) (Al : Option Addr) (cl : Nat)
    (hps : p.steps.length ≤ 20) (hd : days.length ≤ 420) (hl : l.length ≤ 80) (hco : days.length ≤ co ∧ co ≤ 9223372036854775807) (hhi : -9223372036854775808 ≤ hi) :
    SC w b13 b14 vb p days l day step lo hi Ac cc Ap cp Ao co A c Aq cq Al cl (checkS p) (startS p days) (rDecidedL p days) (rForceL p days) (rOrdersL p days) (auditR p days l).1 (auditR p days l).2 (witR p days day).1 (witR p days day).2.1 (witR p days day).2.2 (shE p days day step) (shB p days day step lo hi) where
  chk X h := check_any Ac cc p X h.pq
  rchk X h := rcheck_any Ap cp p X h.pr
  dec X h := (Decided_any Ac cc p Ao co days X h.pq h.ro (by omega)).mono fun e Y ⟨A1, c1, h1, h2, h3⟩ => ⟨A1, c1, h1, h2.1, h3⟩
  rdec X h := rDecided_any Ap cp p A c days X h.pr h.ra (by omega)
  for_ X h := (Force_any Ac cc p Ao co days X h.pq h.ro (by omega)).mono fun e Y ⟨A1, c1, h1, h2, h3⟩ => ⟨A1, c1, h1, h2.1, h3⟩
  rfor X h := rForce_any Ap cp p A c days X h.pr h.ra (by omega)
  ord X h := (Orders_any Ac cc p Ao co days X h.pq h.ro (by omega)).mono fun e Y ⟨v, h1, h2, h3⟩ => by
    rcases h2.2 with ⟨rfl, hn⟩ | ⟨g, cap, cur, rfl, _⟩
    · have hL : rOrdersL p days = [] := List.eq_nil_of_length_eq_zero hn
      rw [hL]
      exact ⟨none, 0, h1, Rd.nil _ _ _, h3⟩
    · exact ⟨_, cap, h1, Rd.of_own h2, h3⟩
  rord X h := (rOrders_any Ap cp p A c days X h.pr h.ra (by omega)).mono fun e Y ⟨A1, c1, h1, h2, _, h3⟩ => ⟨A1, c1, h1, h2, h3⟩
  aud X h := Audit_any Ac cc p Ao co days Aq cq l X h.pq h.ro (by omega) h.rq (by omega)
  raud X Ax cx h hx := rAudit_any Ap cp p A c days Ax cx l X h.pr h.ra (by omega) hx (by omega)
  wit X h := Witness_any Ac cc p Ao co days day X h.pq h.ro hco
  rwit X h := rWitness_any Ap cp p A c days day X h.pr h.ra (by omega)
  shw X h := Shows_all Ac cc p Ao co days day step lo hi X h.pq h.ro hco hhi
  rshw X h := rShows_any Ap cp p A c days day step lo hi X h.pr h.ra (by omega)
  sam X h := same_any Ac cc p Ap cp X h.pq h.pr.2.2 (by omega)
  smi X h := sameInts_any Ao co days A c X h.ro h.ra (by omega)
  smo X h := eqOrds_same Aq Al cq cl l.length l X rfl (by omega) h.rq h.rl
  nD := by unfold rDecidedL; split <;> simp [decidedS_length]; omega
  nF := by unfold rForceL; split <;> simp [forceS_length]; omega
  nO := by
    unfold rOrdersL; split
    · have := ordN_length (forceS p days) p.notice days.length
      rw [ordersS]; omega
    · simp
end Go.Proofs.Ytfmhlnfcbbpfeaa
/- lists of structs that are the same: true (printed by wip/tools/same.py) -/
namespace Go.Proofs.Ytfmhlnfcbbpfeaa
open Go Go.RowKit Sp
set_option linter.unusedVariables false

theorem sameCel (x : Cel) (w : World) : (binOp .neq 123 (.agg #[.int .i64 x.a0, .int .i64 x.a1, .int .i64 x.b0, .int .i64 x.b1, .int .i64 x.c0, .int .i64 x.c1, .int .i64 x.d0, .int .i64 x.d1]) (.agg #[.int .i64 x.a0, .int .i64 x.a1, .int .i64 x.b0, .int .i64 x.b1, .int .i64 x.c0, .int .i64 x.c1, .int .i64 x.d0, .int .i64 x.d1])).run Try.prog w = .ok (.bool false) w := by
  have u3 := Try.underlying3
  have a3 := Try.isAgg3
  have z3 := Try.sizeOf3
  have nu0 := Try.underlying42
  have na0 := Try.isAgg42
  have nz0 := Try.sizeOf42
  have nS0 : Try.prog.underlying 42 = some (.struct (Try.prog.fieldsOf 42)) := by kernel_rfl
  have np0 : Try.prog.stoodInHeld 42 = false := by kernel_rfl
  have hS : Try.prog.underlying 123 = some (.struct (Try.prog.fieldsOf 123)) := by kernel_rfl
  have hp : Try.prog.stoodInHeld 123 = false := by kernel_rfl
  rw [run_neq_struct, show (10000 : Nat) = 9999 + 1 from rfl, run_equalIn_agg w 9999 123 _ _ hS hp]
  simp only [Program.fieldsOf, Try.underlying123]
  go_simp

set_option maxHeartbeats 1000000 in
theorem eqCel_same (A : Option Addr) (c : Nat) (l : List Cel) (B : Option Addr) (d : Nat) (w : World) (hr : Rd w 8 A l.length (cels l)) (hr2 : Rd w 8 B l.length (cels l)) (hm : l.length ≤ 9223372036854775807) :
    Calls Try.prog 66 #[.slice A l.length c, .slice B l.length d] w fun e w' => e = .returned (.bool true) ∧ Below w.heap.size w w' := by
  go_enter Try.func66, Try.ntmps66
  go_wp2_with fail
  go_loopg [13] (l.length) (fun g i wr => ∃ k : Nat, g + k = l.length ∧ i = .int .i64 k ∧ Keep [] w wr)
  case atStart => exact ⟨0, rfl, rfl, Keep.refl _ _⟩
  case round =>
    obtain ⟨k, hk, rfl, hK⟩ := hrel
    have HB := Lib.hid hK
    by_cases hlt : k < l.length
    · obtain ⟨b, off, rfl, hbb, hc⟩ := hr.2 (by omega)
      obtain ⟨b2, off2, rfl, hbb2, hc2⟩ := hr2.2 (by omega)
      obtain ⟨x, hx'⟩ : ∃ x, x = l[k] := ⟨_, rfl⟩
      obtain ⟨s0, s1, s2, s3, s4, s5, s6, s7⟩ := cels_get hlt
      rw [← hx'] at s0 s1 s2 s3 s4 s5 s6 s7
      have bk : ∀ o u, w.cell? ⟨b, o, none⟩ = some u → wr.cell? ⟨b, o, none⟩ = some u := fun o u h => hK.cell h (by simp)
      have bk2 : ∀ o u, w.cell? ⟨b2, o, none⟩ = some u → wr.cell? ⟨b2, o, none⟩ = some u := fun o u h => hK.cell h (by simp)
      have c0 := bk (off + k*8) _ (hc _ _ s0)
      have d0 := bk2 (off2 + k*8) _ (hc2 _ _ s0)
      have c1 := bk (off + k*8 + 1) _ (hc _ _ s1)
      have d1 := bk2 (off2 + k*8 + 1) _ (hc2 _ _ s1)
      have c2 := bk (off + k*8 + 2) _ (hc _ _ s2)
      have d2 := bk2 (off2 + k*8 + 2) _ (hc2 _ _ s2)
      have c3 := bk (off + k*8 + 3) _ (hc _ _ s3)
      have d3 := bk2 (off2 + k*8 + 3) _ (hc2 _ _ s3)
      have c4 := bk (off + k*8 + 4) _ (hc _ _ s4)
      have d4 := bk2 (off2 + k*8 + 4) _ (hc2 _ _ s4)
      have c5 := bk (off + k*8 + 5) _ (hc _ _ s5)
      have d5 := bk2 (off2 + k*8 + 5) _ (hc2 _ _ s5)
      have c6 := bk (off + k*8 + 6) _ (hc _ _ s6)
      have d6 := bk2 (off2 + k*8 + 6) _ (hc2 _ _ s6)
      have c7 := bk (off + k*8 + 7) _ (hc _ _ s7)
      have d7 := bk2 (off2 + k*8 + 7) _ (hc2 _ _ s7)
      clear bk bk2 s0 s1 s2 s3 s4 s5 s6 s7
      have hkI : (0 : Int) ≤ (k : Int) ∧ (k : Int) < (l.length : Int) := by omega
      clear hx' hK hc hc2 hr hr2
      have hne : ∀ w, (binOp .neq 123 (.agg #[.int .i64 x.a0, .int .i64 x.a1, .int .i64 x.b0, .int .i64 x.b1, .int .i64 x.c0, .int .i64 x.c1, .int .i64 x.d0, .int .i64 x.d1]) (.agg #[.int .i64 x.a0, .int .i64 x.a1, .int .i64 x.b0, .int .i64 x.b1, .int .i64 x.c0, .int .i64 x.c1, .int .i64 x.d0, .int .i64 x.d1])).run Try.prog w = .ok (.bool false) w := fun w => sameCel x w
      go_upto_region 6 with fail
      go_quiet (fail)
      go_wp2_with fail
      go_roundg (gk - 1)
      case measure => omega
      case rel => exact ⟨k + 1, by omega, by go_num, HB.out.drewN _⟩
    · obtain rfl : k = l.length := by omega
      clear hK
      go_wp2_with fail
      go_ret
      exact ⟨rfl, HB.out.below (Nat.le_refl _) (by simp)⟩
end Go.Proofs.Ytfmhlnfcbbpfeaa
/- polynyakit.CopySpans -/
namespace Go.Proofs.Ytfmhlnfcbbpfeaa
open Go Go.RowKit Sp
set_option linter.unusedVariables false

theorem spcs_one (l : List (Int × Int)) : ∀ u ∈ spcs l, u.oneCell' = true := by
  intro u hu
  simp only [spcs, spc, List.mem_flatMap] at hu
  obtain ⟨x, _, hx⟩ := hu
  simp at hx
  rcases hx with rfl | rfl <;> rfl
set_option maxRecDepth 100000 in
set_option maxHeartbeats 1000000 in
theorem copySpans_any (A : Option Addr) (c : Nat) (l : List (Int × Int)) (w : World) (hr : Rd w 2 A l.length (spcs l)) (hl : l.length ≤ 100000000) :
    Calls Try.prog 57 #[.slice A l.length c] w fun e w' => ∃ A1 c1, e = .returned (.slice A1 l.length c1) ∧ Rd w' 2 A1 l.length (spcs l) ∧ l.length ≤ c1 ∧ c1 ≤ 9223372036854775807 ∧ Below w.heap.size w w' := by
  obtain ⟨i0, hi, hz0, hz1, hz2⟩ := info_parts info_span
  have HR := Lib.hid hr
  clear hr
  go_enter Try.func57, Try.ntmps57
  go_wp2_with (at_builtin
               refine wpList_append_M rfl (.tmp 4) (.tmp 5) 61 rfl i0 _ 16 Try.underlying61 hi hz0 hz1 hz2 rfl (A := none) (n := 0) (c := 0) (B := A) (m := l.length) (d := c) (xs := []) (fp := []) (ys := spcs l) (by simp [Act.eval]) (by simp [Act.eval]) (OwnS.nil _ _ _) HR.out (spcs_one l) (by omega) (by omega) ?_
               intro A' c' w' fp' h1 h2 h3
               have HQ := Lib.hid (And.intro h1 (And.intro h2 h3))
               clear h1 h2 h3)
  go_ret
  have h1 := HQ.out.1
  rw [Nat.zero_add, List.nil_append] at h1
  exact ⟨A', c', by simp, h1.rd, h1.ge, h1.cap, HQ.out.2.2.below (Nat.le_refl _) (by simp)⟩
end Go.Proofs.Ytfmhlnfcbbpfeaa
/- polynyaref08.May -/
namespace Go.Proofs.Ytfmhlnfcbbpfeaa
open Go Go.RowKit Sp
set_option linter.unusedVariables false

structure MyS where
  g : Nat
  o : Nat
  c2 : Nat
set_option linter.unusedVariables false
def MyV (W0 : World) (ob k j n c bs os cs : Nat) (A : Option Addr) (p : Pol) (ve : Ves) (st : Stp) (x : Bool) (s : MyS) : Nat → Value → Prop
  | 0, v => v = .agg #[.int .i64 ve.cls, .int .i64 ve.ton, .bool ve.esc]
  | 1, v => v = .pointer (some ⟨ob, 0, none⟩)
  | 2, v => v = .slice (some ⟨bs, os, none⟩) p.steps.length cs
  | 3, v => v = .agg #[.slice (some ⟨bs, os, none⟩) p.steps.length cs, .int .i64 p.hold, .int .i64 p.calm, .int .i64 p.notice, .int .i64 p.grace]
  | 4, v => v = .slice A n c
  | 5, v => v = .slice (some ⟨s.g, s.o, none⟩) n s.c2
  | 6, v => v = .int .i64 k
  | 7, v => v = .pointer (some ⟨s.g, s.o + k, none⟩)
  | 8, v => v = .int .i64 j
  | 9, v => v = .pointer (some ⟨bs, os + j * 4, none⟩)
  | 10, v => v = .agg #[.int .i64 st.cls, .int .i64 st.ton, .int .i64 st.up, .int .i64 st.dn]
  | 11, v => v = .bool x
  | 12, v => v = .bool x
  | 13, v => v = .int .i64 0
  | _, _ => True
def MyW (W0 : World) (ob k j n c bs os cs : Nat) (A : Option Addr) (p : Pol) (ve : Ves) (st : Stp) (x : Bool) (s : MyS) (l : Nat → Bool) (w : World) : Prop := Below W0.heap.size W0 w ∧ (l 5 = true → w.cell? ⟨s.g, s.o + k, none⟩ = some (.int .i64 j))
set_option maxRecDepth 100000 in
set_option maxHeartbeats 2000000 in
theorem rMay_any (As : Option Addr) (cs : Nat) (p : Pol) (A : Option Addr) (c : Nat) (days : List Int) (v : Ves) (day : Int) (w : World) (hp : PolV w As cs p) (hr : Rd w 1 A days.length (ints days)) (hm : days.length ≤ 9223372036854775807) :
    Calls Try.prog 48 #[.agg #[.slice As p.steps.length cs, .int .i64 p.hold, .int .i64 p.calm, .int .i64 p.notice, .int .i64 p.grace], .slice A days.length c, .agg #[.int .i64 v.cls, .int .i64 v.ton, .bool v.esc], .int .i64 day] w
      fun e w' => e = .returned (.tuple #[.bool (mayB p days v day), .int .i64 (mayE p days v day)]) ∧ Below w.heap.size w w' := by
  have rd0 := RD.new (A := A) (days := days) hp hr
  obtain ⟨W1, hW1⟩ : ∃ W, W = w.alloc (.cells #[.slice As p.steps.length cs, .int .i64 p.hold, .int .i64 p.calm, .int .i64 p.notice, .int .i64 p.grace] 70) := ⟨_, rfl⟩
  obtain ⟨ob, hob⟩ : ∃ ob, ob = w.heap.size := ⟨_, rfl⟩
  rw [← hW1, ← hob] at rd0
  obtain ⟨W, hW⟩ : ∃ W, W = W1.alloc (.cells #[.int .i64 v.cls, .int .i64 v.ton, .bool v.esc] 92) := ⟨_, rfl⟩
  obtain ⟨vb, hvb⟩ : ∃ vb, vb = W1.heap.size := ⟨_, rfl⟩
  have hvb2 : vb = ob + 1 := by rw [hvb, hW1, hob]; simp
  have hvh : W.heap[vb]? = some (.cells #[.int .i64 v.cls, .int .i64 v.ton, .bool v.esc] 92 (0, 0)) := by rw [hW, hvb]; exact heap_alloc_new _ _
  have rdW : RD w W ob As cs p A days := rd0.below (by rw [hW]; exact (Below.refl _ _).alloc (Nat.le_refl _) _)
  obtain ⟨er, her⟩ : ∃ er, er = askS p days v := ⟨_, rfl⟩
  have k1 := rasked_any As cs p A c days v W rdW.pol rdW.dys hm
  rw [← her] at k1
  obtain ⟨q0, q1, q2, q3, q4, zp⟩ := rdW.cells
  have v0 := (cell_of_heap hvh 0).trans rfl
  have v1 := (cell_of_heap hvh 1).trans rfl
  have v2 := (cell_of_heap hvh 2).trans rfl
  have HR := Lib.hid (And.intro rdW (And.intro k1 (And.intro her hvh)))
  clear hp hr rd0 rdW k1 her hvh hvb
  go_enter Try.func48, Try.ntmps48
  go_upto_region 1 with fail
  rw [← hW1, ← hob, ← hvb2, ← hW]
  clear hW hob hW1 hvb2
  go_wp2_with fail
  refine HR.out.2.1.mono ?_
  rintro e w1 ⟨rfl, b1⟩
  have rd1 := HR.out.1.below b1
  have hv1 := (b1.block _ (heap_lt HR.out.2.2.2)).trans HR.out.2.2.2
  clear q0 q1 q2 q3 q4 zp b1 v0 v1 v2
  have HB := Lib.hid (And.intro rd1 hv1)
  clear rd1 hv1
  by_cases h0 : er = 0
  · subst h0
    obtain ⟨dr, hdr⟩ : ∃ dr, dr = within day 0 ((days.length : Int) - 1) := ⟨_, rfl⟩
    have hin : ∀ wx, Calls Try.prog 92 #[.int .i64 day, .int .i64 0, .int .i64 ((days.length : Int) - 1)] wx fun e w' => e = .returned (.bool dr) ∧ wx = w' := fun wx => by rw [hdr]; exact rin_any day 0 _ wx
    have HD := Lib.hid (And.intro hdr hin)
    clear hdr hin
    cases dr
    · go_wp2_with (go_at_call 92; refine (HD.out.2 _).mono ?_; rintro e w2 ⟨rfl, rfl⟩)
      go_ret2
      have he : mayE p days v day = 6 := by rw [may_day HR.out.2.2.1.symm, ← HD.out.1]; rfl
      refine ⟨?_, HB.out.1.bel⟩
      rw [mayB, he]; rfl
    · have hlt : 0 ≤ day ∧ day < days.length := by have := HD.out.1; simp [within] at this; omega
      obtain ⟨k, rfl⟩ : ∃ k : Nat, day = k := ⟨day.toNat, by omega⟩
      have hlt' : k < days.length := by omega
      have hst : startS p days = 0 := by
        by_cases h : startS p days = 0
        · exact h
        · have := ask_start (v := v) h; rw [← HR.out.2.2.1] at this; exact absurd this.symm h
      have hvr : vright v = true := by
        have h5 := ask_right (v := v) hst
        rw [← HR.out.2.2.1] at h5
        cases hx : vright v
        · rw [hx] at h5; cases h5
        · rfl
      obtain ⟨hck, hl4, _⟩ := start_ok hst
      have hfs := force_step hck days k
      obtain ⟨j, hj⟩ := Int.eq_ofNat_of_zero_le hfs.1
      have hjl : j < p.steps.length := by have := hfs.2; omega
      have hjl' : (j : Int) < (p.steps.length : Int) := by omega
      obtain ⟨bs, os, rfl, hbs, p0, p1, p2, p3⟩ := HB.out.1.step hjl
      obtain ⟨st, hst2⟩ : ∃ st, st = stp p j := ⟨_, rfl⟩
      rw [← hst2] at p0 p1 p2 p3
      obtain ⟨q0, q1, q2, q3, q4, zp⟩ := HB.out.1.cells
      have v0 := (cell_of_heap HB.out.2 0).trans rfl
      have v1 := (cell_of_heap HB.out.2 1).trans rfl
      have v2 := (cell_of_heap HB.out.2 2).trans rfl
      have n1 : (0 : Int) ≤ (k : Int) := by omega
      have n3 : (0 : Int) ≤ (j : Int) := by omega
      have HI := Lib.hid (And.intro hck (And.intro hj (And.intro hst2 (And.intro hvr hl4))))
      clear hst hvr hck hl4 hfs hj hst2 hlt
      have zv := World.block_lt_of_cell? w1 _ v0
      have n5 : (k : Int) < (days.length : Int) := by omega
      go_upto_region 6 with (go_at_call 92; refine (HD.out.2 _).mono ?_; rintro e w2 ⟨rfl, rfl⟩)
      obtain ⟨x, hxb⟩ : ∃ x, x = fulfils v st := ⟨_, rfl⟩
      have HXB := Lib.hid hxb
      clear hxb
      refine wp_region_steps (σ := MyS) (by kernel_rfl) (by kernel_rfl) (fun sg jx vx _ => MyV w1 ob k j days.length c bs os cs A p v st x sg jx vx) (fun sg ly wx => MyW w1 ob k j days.length c bs os cs A p v st x sg ly wx) ⟨0, 0, 0⟩ ?_ ?_ ?_
      · exact ⟨(Below.refl _ _).drew, fun h => by simp at h⟩
      · simp only [AllFrom, Nat.zero_add, Nat.reduceAdd]
        refine ⟨?_, ?_, ?_, ?_, ?_, ?_, ?_, ?_, ?_, ?_, ?_, ?_, ?_, ?_, trivial⟩
        · refine step_pure fun sg ly a wr hl hd hW hF => ?_
          have et6 := hF.old 6 (by kernel_rfl)
          simp [Act.eval] at et6
          have k0 := (hW.1.cell (p := ⟨vb, 0, none⟩) zv).trans v0
          have k1 := (hW.1.cell (p := ⟨vb, 1, none⟩) zv).trans v1
          have k2 := (hW.1.cell (p := ⟨vb, 2, none⟩) zv).trans v2
          exact ⟨by simpa [MyW, upd] using hW, .agg #[.int .i64 v.cls, .int .i64 v.ton, .bool v.esc], by go_simp, rfl⟩
        · refine step_pure fun sg ly a wr hl hd hW hF => ?_
          have et4 := hF.old 4 (by kernel_rfl)
          simp [Act.eval] at et4
          exact ⟨by simpa [MyW, upd] using hW, .pointer (some ⟨ob, 0, none⟩), by go_simp, rfl⟩
        · refine step_pure fun sg ly a wr hl hd hW hF => ?_
          simp [Region.binds] at hd
          have et25 := hF.new 1 25 (by simp [hd]) rfl
          simp [MyV, Act.eval] at et25
          have k0 := (hW.1.cell (p := ⟨ob, 0, none⟩) zp).trans q0
          exact ⟨by simpa [MyW, upd] using hW, .slice (some ⟨bs, os, none⟩) p.steps.length cs, by go_simp, rfl⟩
        · refine step_pure fun sg ly a wr hl hd hW hF => ?_
          have et4 := hF.old 4 (by kernel_rfl)
          simp [Act.eval] at et4
          have k0 := (hW.1.cell (p := ⟨ob, 0, none⟩) zp).trans q0
          have k1 := (hW.1.cell (p := ⟨ob, 1, none⟩) zp).trans q1
          have k2 := (hW.1.cell (p := ⟨ob, 2, none⟩) zp).trans q2
          have k3 := (hW.1.cell (p := ⟨ob, 3, none⟩) zp).trans q3
          have k4 := (hW.1.cell (p := ⟨ob, 4, none⟩) zp).trans q4
          exact ⟨by simpa [MyW, upd] using hW, .agg #[.slice (some ⟨bs, os, none⟩) p.steps.length cs, .int .i64 p.hold, .int .i64 p.calm, .int .i64 p.notice, .int .i64 p.grace], by go_simp, rfl⟩
        · refine step_pure fun sg ly a wr hl hd hW hF => ?_
          have et1 := hF.old 1 (by kernel_rfl)
          simp [Act.eval] at et1
          exact ⟨by simpa [MyW, upd] using hW, .slice A days.length c, by go_simp, rfl⟩
        · refine step_call fun sg ly a wr hl hd hW hF => ?_
          simp [Region.binds] at hd
          have et27 := hF.new 3 27 (by simp [hd]) rfl
          simp [MyV, Act.eval] at et27
          have et28 := hF.new 4 28 (by simp [hd]) rfl
          simp [MyV, Act.eval] at et28
          have nz := hF.notYet 5 7 hl (by kernel_rfl)
          refine ⟨95, #[.agg #[.slice (some ⟨bs, os, none⟩) p.steps.length cs, .int .i64 p.hold, .int .i64 p.calm, .int .i64 p.notice, .int .i64 p.grace], .slice A days.length c], by go_simp, ?_⟩
          refine (rforce_any _ cs p A c days wr (HB.out.1.below hW.1).pol (HB.out.1.below hW.1).dys HI.out.1 HI.out.2.2.2.2).mono ?_
          rintro e w2 ⟨A2, c2, rfl, h1, h2, h3, h4⟩
          obtain ⟨g, o, rfl, hbg, hcg⟩ := h1.2 (by omega)
          have cg := hcg k _ (ints_get (by rw [forceS_length]; exact hlt'))
          rw [HI.out.2.1] at cg
          refine ⟨_, ⟨g, o, c2⟩, rfl, ⟨hW.1.trans (h4.mono hW.1.size), fun _ => cg⟩, rfl, ?_⟩
          intro i u hi h
          have i5 : i ≠ 5 := by rintro rfl; rw [hl] at hi; cases hi
          have i7 : i ≠ 7 := by rintro rfl; rw [nz] at hi; cases hi
          unfold MyV at h ⊢
          split at h <;> first | exact h | exact absurd rfl i5 | exact absurd rfl i7
        · refine step_pure fun sg ly a wr hl hd hW hF => ?_
          have et3 := hF.old 3 (by kernel_rfl)
          simp [Act.eval] at et3
          exact ⟨by simpa [MyW, upd] using hW, .int .i64 k, by go_simp, rfl⟩
        · refine step_pure fun sg ly a wr hl hd hW hF => ?_
          simp [Region.binds] at hd
          have et29 := hF.new 5 29 (by simp [hd]) rfl
          simp [MyV, Act.eval] at et29
          have et30 := hF.new 6 30 (by simp [hd]) rfl
          simp [MyV, Act.eval] at et30
          exact ⟨by simpa [MyW, upd] using hW, .pointer (some ⟨sg.g, sg.o + k, none⟩), by go_simp, rfl⟩
        · refine step_pure fun sg ly a wr hl hd hW hF => ?_
          simp [Region.binds] at hd
          have et31 := hF.new 7 31 (by simp [hd]) rfl
          simp [MyV, Act.eval] at et31
          have y5 := hF.before 5 7 (by simp [hd]) (by kernel_rfl)
          have cd := hW.2 y5
          exact ⟨by simpa [MyW, upd] using hW, .int .i64 j, by go_simp, rfl⟩
        · refine step_pure fun sg ly a wr hl hd hW hF => ?_
          simp [Region.binds] at hd
          have et26 := hF.new 2 26 (by simp [hd]) rfl
          simp [MyV, Act.eval] at et26
          have et32 := hF.new 8 32 (by simp [hd]) rfl
          simp [MyV, Act.eval] at et32
          exact ⟨by simpa [MyW, upd] using hW, .pointer (some ⟨bs, os + j * 4, none⟩), by go_simp, rfl⟩
        · refine step_pure fun sg ly a wr hl hd hW hF => ?_
          simp [Region.binds] at hd
          have et33 := hF.new 9 33 (by simp [hd]) rfl
          simp [MyV, Act.eval] at et33
          have k0 := (hW.1.cell (p := ⟨bs, os + j * 4, none⟩) hbs).trans p0
          have k1 := (hW.1.cell (p := ⟨bs, os + j * 4 + 1, none⟩) hbs).trans p1
          have k2 := (hW.1.cell (p := ⟨bs, os + j * 4 + 2, none⟩) hbs).trans p2
          have k3 := (hW.1.cell (p := ⟨bs, os + j * 4 + 3, none⟩) hbs).trans p3
          exact ⟨by simpa [MyW, upd] using hW, .agg #[.int .i64 st.cls, .int .i64 st.ton, .int .i64 st.up, .int .i64 st.dn], by go_simp, rfl⟩
        · refine step_call fun sg ly a wr hl hd hW hF => ?_
          simp [Region.binds] at hd
          have et24 := hF.new 0 24 (by simp [hd]) rfl
          simp [MyV, Act.eval] at et24
          have et34 := hF.new 10 34 (by simp [hd]) rfl
          simp [MyV, Act.eval] at et34
          refine ⟨99, #[.agg #[.int .i64 v.cls, .int .i64 v.ton, .bool v.esc], .agg #[.int .i64 st.cls, .int .i64 st.ton, .int .i64 st.up, .int .i64 st.dn]], by go_simp, ?_⟩
          refine (rfulfils_any v st wr (vright_cls HI.out.2.2.2.1)).mono ?_
          rintro e w2 ⟨rfl, h4⟩
          refine ⟨_, sg, rfl, ⟨hW.1.trans (h4.mono hW.1.size), fun h8 => (h4.cell (World.block_lt_of_cell? _ _ (hW.2 (by simpa [upd] using h8)))).trans (hW.2 (by simpa [upd] using h8))⟩, by rw [HXB.out]; rfl, fun _ _ _ h => h⟩
        · refine step_pure fun sg ly a wr hl hd hW hF => ?_
          simp [Region.binds] at hd
          have et35 := hF.new 11 35 (by simp [hd]) rfl
          simp [MyV, Act.eval] at et35
          exact ⟨by simpa [MyW, upd] using hW, .bool x, by go_simp, rfl⟩
        · refine step_pure fun sg ly a wr hl hd hW hF => ?_
          exact ⟨by simpa [MyW, upd] using hW, .int .i64 0, by go_simp, rfl⟩
      intro sg a w3 hW hF
      have e8 := hF.new 12 8 (by decide) rfl
      have e9 := hF.new 13 9 (by decide) rfl
      obtain ⟨f, hf, rfl⟩ := hF.lit
      rw [← hf] at e8 e9
      simp only [MyV] at e8 e9
      have B3 := hW.1
      clear hf hF hW
      simp only [List.filterMap, List.foldl, List.setIfInBounds_toArray, List.set_cons_succ, List.set_cons_zero, e8, e9]
      clear e8 e9
      go_wp2_with fail
      go_ret2
      have he : mayE p days v (k : Int) = 0 := by rw [may_day HR.out.2.2.1.symm, ← HD.out.1]; rfl
      refine ⟨?_, HB.out.1.bel.trans (B3.mono HB.out.1.bel.size)⟩
      rw [mayB, he, if_pos rfl, Int.toNat_natCast, passes_get p days v hlt', HI.out.2.1, Int.toNat_natCast, ← HI.out.2.2.1, ← HXB.out]; rfl
  · have hne : (er != 0) = true := by simp [h0]
    have HK := Lib.hid h0
    clear h0
    go_wp2_with fail
    go_ret2
    have he : mayE p days v day = er := by rw [may_ask (by rw [← HR.out.2.2.1]; exact HK.out), HR.out.2.2.1]
    refine ⟨?_, HB.out.1.bel⟩
    rw [mayB, he, if_neg HK.out]; rfl
end Go.Proofs.Ytfmhlnfcbbpfeaa
/- restrict.First -/
namespace Go.Proofs.Ytfmhlnfcbbpfeaa
open Go Go.RowKit Sp
set_option linter.unusedVariables false

/-- where she may first, from a day on -/
def firI (p : Pol) (days : List Int) (v : Ves) (day : Int) : Int := idxL true ((passesS p days v).drop day.toNat)
def firE (p : Pol) (days : List Int) (v : Ves) (day : Int) : Int := if mayE p days v day ≠ 0 then mayE p days v day else if firI p days v day < 0 then 4 else 0
def firN (p : Pol) (days : List Int) (v : Ves) (day : Int) : Int := if firE p days v day = 0 then day + firI p days v day else 0
theorem fir_may {p : Pol} {days : List Int} {v : Ves} {day : Int} (h : mayE p days v day ≠ 0) : firE p days v day = mayE p days v day ∧ firN p days v day = 0 := by
  have e : firE p days v day = mayE p days v day := by unfold firE; rw [if_pos h]
  exact ⟨e, by unfold firN; rw [e, if_neg h]⟩
theorem fir_none {p : Pol} {days : List Int} {v : Ves} {day : Int} (h : mayE p days v day = 0) (hi : firI p days v day < 0) : firE p days v day = 4 ∧ firN p days v day = 0 := by
  have e : firE p days v day = 4 := by unfold firE; rw [if_neg (fun f => f h), if_pos hi]
  exact ⟨e, by unfold firN; rw [e]; rfl⟩
theorem fir_some {p : Pol} {days : List Int} {v : Ves} {day : Int} (h : mayE p days v day = 0) (hi : 0 ≤ firI p days v day) : firE p days v day = 0 ∧ firN p days v day = day + firI p days v day := by
  have e : firE p days v day = 0 := by unfold firE; rw [if_neg (fun f => f h), if_neg (by omega)]
  exact ⟨e, by unfold firN; rw [e]; rfl⟩

set_option maxRecDepth 100000 in
set_option maxHeartbeats 1000000 in
theorem First_any (As : Option Addr) (cs : Nat) (p : Pol) (A : Option Addr) (c : Nat) (days : List Int) (v : Ves) (day : Int) (w : World) (hp : PolV w As cs p) (hr : Rd w 1 A days.length (ints days)) (hm : days.length ≤ 9223372036854775807) :
    Calls Try.prog 27 #[.agg #[.slice As p.steps.length cs, .int .i64 p.hold, .int .i64 p.calm, .int .i64 p.notice, .int .i64 p.grace], .slice A days.length c, .agg #[.int .i64 v.cls, .int .i64 v.ton, .bool v.esc], .int .i64 day] w
      fun e w' => e = .returned (.tuple #[.int .i64 (firN p days v day), .int .i64 (firE p days v day)]) ∧ Below w.heap.size w w' := by
  obtain ⟨er, her⟩ : ∃ er, er = askS p days v := ⟨_, rfl⟩
  obtain ⟨n, hn⟩ : ∃ n, n = if er = 0 then days.length else 0 := ⟨_, rfl⟩
  have b0 : ∀ o o', Below w.heap.size w ((w.alloc o).alloc o') := fun o o' => ((Below.refl _ _).alloc (Nat.le_refl _) _).alloc (by simp) _
  have hak : ∀ o o', Calls Try.prog 82 #[.agg #[.slice As p.steps.length cs, .int .i64 p.hold, .int .i64 p.calm, .int .i64 p.notice, .int .i64 p.grace], .slice A days.length c, .agg #[.int .i64 v.cls, .int .i64 v.ton, .bool v.esc]]
      ((w.alloc o).alloc o')
      fun e w1 => ∃ A1 c1, e = .returned (.tuple #[.slice A1 n c1, .int .i64 er]) ∧ (er = 0 → BoolsAt w1 A1 c1 (passesS p days v)) ∧ Below w.heap.size w w1 := by
    intro o o'
    refine (asked_any As cs p A c days v _ ⟨hp.1, hp.2.1, hp.2.2.below (b0 _ _)⟩ (hr.below (b0 _ _)) hm).mono ?_
    rintro e w1 ⟨A1, c1, rfl, h1, h2⟩
    exact ⟨A1, c1, by rw [hn, her], fun h => h1 (her.symm.trans h), (b0 _ _).trans (h2.mono (by simp; omega))⟩
  have HP := Lib.hid (And.intro her (And.intro hn hak))
  clear her hn hak b0 hr
  by_cases h0 : er = 0
  · subst h0
    have hne : ((0 : Int) != 0) = false := rfl
    obtain rfl : n = days.length := HP.out.2.1
    obtain ⟨dr, hdr⟩ : ∃ dr, dr = within day 0 ((days.length : Int) - 1) := ⟨_, rfl⟩
    have hin : ∀ wx, Calls Try.prog 76 #[.int .i64 day, .int .i64 0, .int .i64 ((days.length : Int) - 1)] wx fun e w' => e = .returned (.bool dr) ∧ wx = w' := fun wx => by rw [hdr]; exact within_any day 0 _ wx
    have HD := Lib.hid (And.intro hdr hin)
    clear hdr hin
    cases dr
    · go_enter Try.func27, Try.ntmps27
      go_wp2_with fail
      refine (HP.out.2.2 _ _).mono ?_
      rintro e w1 ⟨A1, c1, rfl, h1, h2⟩
      have HB := Lib.hid (And.intro h1 h2)
      clear h1 h2
      go_wp2_with (go_at_call 76; refine (HD.out.2 _).mono ?_; rintro e w2 ⟨rfl, rfl⟩)
      go_ret2
      have he : mayE p days v day = 6 := by rw [may_day HP.out.1.symm, ← HD.out.1]; rfl
      have hf := fir_may (p := p) (days := days) (v := v) (day := day) (by rw [he]; decide)
      exact ⟨by rw [hf.1, hf.2, he]; rfl, HB.out.2⟩
    · have hlt : 0 ≤ day ∧ day < days.length := by have := HD.out.1; simp [within] at this; omega
      obtain ⟨k, rfl⟩ : ∃ k : Nat, day = k := ⟨day.toNat, by omega⟩
      have hlt' : k < days.length := by omega
      clear hlt
      go_enter Try.func27, Try.ntmps27
      go_wp2_with fail
      refine (HP.out.2.2 _ _).mono ?_
      rintro e w1 ⟨A1, c1, rfl, h1, h2⟩
      obtain ⟨hr1, hc1, hc2⟩ := h1 trivial
      rw [passesS_length] at hr1 hc1
      obtain ⟨b, off, rfl, hb, hc⟩ := hr1.2 (by omega)
      have hL : ((passesS p days v).drop k).length = days.length - k := by rw [List.length_drop, passesS_length]
      obtain ⟨f, hf⟩ : ∃ f, f = firI p days v k := ⟨_, rfl⟩
      have hix : ∀ cx, Calls Try.prog 78 #[.slice (some ⟨b, off + k, none⟩) (days.length - k) cx, .bool true] w1 fun e w' => e = .returned (.int .i64 f) ∧ w1 = w' := by
        intro cx
        have := indexB_any (some ⟨b, off + k, none⟩) cx ((passesS p days v).drop k) true w1 ?_ (by rw [hL]; omega)
        · rw [hL] at this
          rw [hf, firI, Int.toNat_natCast]; exact this
        · rw [hL]
          have := rd_sub (a := k) (m := days.length - k) hr1 (by omega) hb hc
          rw [bools, ← List.map_drop, ← List.map_take, List.take_of_length_le (by rw [hL]; omega)] at this
          exact this
      have hfr : -1 ≤ f ∧ f ≤ days.length - k := by
        have := idxL_range true ((passesS p days v).drop k)
        rw [hL] at this
        rw [hf, firI, Int.toNat_natCast]
        omega
      have HB := Lib.hid (And.intro h2 (And.intro hix hf))
      clear h1 h2 hc hr1 hix hf hL
      have n1 : (0 : Int) ≤ (k : Int) := by omega
      by_cases hf0 : f < 0
      · go_wp2_with (first | (go_at_call 76; refine (HD.out.2 _).mono ?_; rintro e w2 ⟨rfl, rfl⟩) | (go_at_call 78; refine (HB.out.2.1 _).mono ?_; rintro e w2 ⟨rfl, rfl⟩))
        go_ret2
        have he : mayE p days v (k : Int) = 0 := by rw [may_day HP.out.1.symm, ← HD.out.1]; rfl
        have hff := fir_none he (by rw [← HB.out.2.2]; exact hf0)
        exact ⟨by rw [hff.1, hff.2]; rfl, HB.out.1⟩
      · go_wp2_with (first | (go_at_call 76; refine (HD.out.2 _).mono ?_; rintro e w2 ⟨rfl, rfl⟩) | (go_at_call 78; refine (HB.out.2.1 _).mono ?_; rintro e w2 ⟨rfl, rfl⟩))
        go_ret2
        have he : mayE p days v (k : Int) = 0 := by rw [may_day HP.out.1.symm, ← HD.out.1]; rfl
        have hff := fir_some he (by rw [← HB.out.2.2]; omega)
        exact ⟨by rw [hff.1, hff.2, HB.out.2.2]; rfl, HB.out.1⟩
  · have hne : (er != 0) = true := by simp [h0]
    have HK := Lib.hid h0
    clear h0
    go_enter Try.func27, Try.ntmps27
    go_wp2_with fail
    refine (HP.out.2.2 _ _).mono ?_
    rintro e w1 ⟨A1, c1, rfl, h1, h2⟩
    have HB := Lib.hid h2
    clear h1 h2
    go_wp2_with fail
    go_ret2
    have he : mayE p days v day = er := by rw [may_ask (by rw [← HP.out.1]; exact HK.out), HP.out.1]
    have hf := fir_may (p := p) (days := days) (v := v) (day := day) (by rw [he]; exact HK.out)
    exact ⟨by rw [hf.1, hf.2, he]; rfl, HB.out⟩

end Go.Proofs.Ytfmhlnfcbbpfeaa
