/- RestrictBounds: what is kept from call to call, and the calls, with letters for their answers -/
import Derived.Test.YtbgnkljjgfcngaaGreatRSp19
import Derived.Test.YtbgnkljjgfcngaaGreatRSp9
import Derived.Test.YtbgnkljjgfcngaaGreatRSp10
import Derived.Test.YtbgnkljjgfcngaaGreatRSp25
import Derived.Test.YtbgnkljjgfcngaaGreatRSp15
import Derived.Test.YtbgnkljjgfcngaaGreatRSp28
import Derived.Test.YtbgnkljjgfcngaaGreatRSp29
import Derived.Test.YtbgnkljjgfcngaaGreatRSp32
import Derived.WalkKit
set_option linter.unusedVariables false
set_option linter.unusedSimpArgs false
namespace Go.Proofs.YtbgnkljjgfcngaaGreat
open Go Go.RowKit Sp
set_option linter.unusedSimpArgs false
set_option linter.unusedVariables false

/-- the two policies, the vessel, the ice and the chart in their blocks, own copies and originals of the spans and of the cells' list, the chart's cells -/
structure BQ (w X : World) (b15 b16 vb ib cb : Nat) (p : Pol) (v : Ves) (x : Ice) (a b c : Int) (l : List (Int × Int)) (cl : List Cel) (ns : List Int) (Ac : Option Addr) (cc : Nat) (Ap : Option Addr) (cp : Nat) (Ao A Ak An Acl : Option Addr) (ccl : Nat) : Prop where
  h15 : X.heap[b15]? = some (.cells #[.slice Ac p.steps.length cc, .int .i64 p.hold, .int .i64 p.calm, .int .i64 p.notice, .int .i64 p.grace] 25 (0, 0))
  h16 : X.heap[b16]? = some (.cells #[.slice Ap p.steps.length cp, .int .i64 p.hold, .int .i64 p.calm, .int .i64 p.notice, .int .i64 p.grace] 65 (0, 0))
  hv : X.heap[vb]? = some (.cells #[.int .i64 v.cls, .int .i64 v.ton, .bool v.esc] 29 (0, 0))
  hi : X.heap[ib]? = some (.cells #[.int .i64 x.con, .int .i64 x.thk, .int .i64 x.rid, .int .i64 x.prs] 45 (0, 0))
  hc : X.heap[cb]? = some (.cells #[.int .i64 a, .int .i64 b, .int .i64 c, .slice Acl cl.length ccl] 49 (0, 0))
  pq : PolV X Ac cc p
  pr : PolV X Ap cp p
  ro : Rd X 2 Ao l.length (spcs l)
  ra : Rd X 2 A l.length (spcs l)
  rk : Rd X 1 Ak ns.length (ints ns)
  rn : Rd X 1 An ns.length (ints ns)
  rc : Rd X 8 Acl cl.length (cels cl)
  bel : Below w.heap.size w X
section
variable {w X Y : World} {b15 b16 vb ib cb : Nat} {p : Pol} {v : Ves} {x : Ice} {a b c : Int} {l : List (Int × Int)} {cl : List Cel} {ns : List Int} {Ac : Option Addr} {cc : Nat} {Ap : Option Addr} {cp : Nat} {Ao A Ak An Acl : Option Addr} {ccl : Nat}
theorem BQ.below (h : BQ w X b15 b16 vb ib cb p v x a b c l cl ns Ac cc Ap cp Ao A Ak An Acl ccl) (hb : Below X.heap.size X Y) : BQ w Y b15 b16 vb ib cb p v x a b c l cl ns Ac cc Ap cp Ao A Ak An Acl ccl :=
  ⟨(hb.block _ (heap_lt h.h15)).trans h.h15, (hb.block _ (heap_lt h.h16)).trans h.h16, (hb.block _ (heap_lt h.hv)).trans h.hv, (hb.block _ (heap_lt h.hi)).trans h.hi, (hb.block _ (heap_lt h.hc)).trans h.hc, ⟨h.pq.1, h.pq.2.1, h.pq.2.2.below hb⟩, ⟨h.pr.1, h.pr.2.1, h.pr.2.2.below hb⟩, h.ro.below hb, h.ra.below hb, h.rk.below hb, h.rn.below hb, h.rc.below hb, h.bel.trans (hb.mono h.bel.size)⟩
theorem BQ.cells (h : BQ w X b15 b16 vb ib cb p v x a b c l cl ns Ac cc Ap cp Ao A Ak An Acl ccl) : (X.cell? ⟨b15, 0, none⟩ = some (.slice Ac p.steps.length cc) ∧ X.cell? ⟨b15, 1, none⟩ = some (.int .i64 p.hold) ∧ X.cell? ⟨b15, 2, none⟩ = some (.int .i64 p.calm) ∧ X.cell? ⟨b15, 3, none⟩ = some (.int .i64 p.notice) ∧ X.cell? ⟨b15, 4, none⟩ = some (.int .i64 p.grace) ∧ b15 < X.heap.size) ∧
    (X.cell? ⟨b16, 0, none⟩ = some (.slice Ap p.steps.length cp) ∧ X.cell? ⟨b16, 1, none⟩ = some (.int .i64 p.hold) ∧ X.cell? ⟨b16, 2, none⟩ = some (.int .i64 p.calm) ∧ X.cell? ⟨b16, 3, none⟩ = some (.int .i64 p.notice) ∧ X.cell? ⟨b16, 4, none⟩ = some (.int .i64 p.grace) ∧ b16 < X.heap.size) ∧
    (X.cell? ⟨vb, 0, none⟩ = some (.int .i64 v.cls) ∧ X.cell? ⟨vb, 1, none⟩ = some (.int .i64 v.ton) ∧ X.cell? ⟨vb, 2, none⟩ = some (.bool v.esc) ∧ vb < X.heap.size) ∧
    (X.cell? ⟨ib, 0, none⟩ = some (.int .i64 x.con) ∧ X.cell? ⟨ib, 1, none⟩ = some (.int .i64 x.thk) ∧ X.cell? ⟨ib, 2, none⟩ = some (.int .i64 x.rid) ∧ X.cell? ⟨ib, 3, none⟩ = some (.int .i64 x.prs) ∧ ib < X.heap.size) ∧
    (X.cell? ⟨cb, 0, none⟩ = some (.int .i64 a) ∧ X.cell? ⟨cb, 1, none⟩ = some (.int .i64 b) ∧ X.cell? ⟨cb, 2, none⟩ = some (.int .i64 c) ∧ X.cell? ⟨cb, 3, none⟩ = some (.slice Acl cl.length ccl) ∧ cb < X.heap.size) :=
  ⟨⟨(cell_of_heap h.h15 0).trans rfl, (cell_of_heap h.h15 1).trans rfl, (cell_of_heap h.h15 2).trans rfl, (cell_of_heap h.h15 3).trans rfl, (cell_of_heap h.h15 4).trans rfl, heap_lt h.h15⟩,
   ⟨(cell_of_heap h.h16 0).trans rfl, (cell_of_heap h.h16 1).trans rfl, (cell_of_heap h.h16 2).trans rfl, (cell_of_heap h.h16 3).trans rfl, (cell_of_heap h.h16 4).trans rfl, heap_lt h.h16⟩,
   ⟨(cell_of_heap h.hv 0).trans rfl, (cell_of_heap h.hv 1).trans rfl, (cell_of_heap h.hv 2).trans rfl, heap_lt h.hv⟩,
   ⟨(cell_of_heap h.hi 0).trans rfl, (cell_of_heap h.hi 1).trans rfl, (cell_of_heap h.hi 2).trans rfl, (cell_of_heap h.hi 3).trans rfl, heap_lt h.hi⟩,
   (cell_of_heap h.hc 0).trans rfl, (cell_of_heap h.hc 1).trans rfl, (cell_of_heap h.hc 2).trans rfl, (cell_of_heap h.hc 3).trans rfl, heap_lt h.hc⟩
end

abbrev bqV (v : Ves) : Value := .agg #[.int .i64 v.cls, .int .i64 v.ton, .bool v.esc]
abbrev bqI (x : Ice) : Value := .agg #[.int .i64 x.con, .int .i64 x.thk, .int .i64 x.rid, .int .i64 x.prs]
/-- the calls' contracts, with letters -/
structure BC (w : World) (b15 b16 vb ib cb : Nat) (p : Pol) (v : Ves) (day : Int) (x : Ice) (a b c : Int) (l : List (Int × Int)) (cl : List Cel) (ns : List Int) (Ac : Option Addr) (cc : Nat) (Ap : Option Addr) (cp : Nat) (Ao : Option Addr) (co : Nat) (A : Option Addr) (ca : Nat) (Ak : Option Addr) (ck : Nat) (An : Option Addr) (cn : Nat) (Acl : Option Addr) (ccl : Nat)
    (LB : List (Int × Int)) (bE : Int) (sB pB : Bool) (sE gN iE dE d1 d2 cE : Int) : Prop where
  bnd : ∀ X, BQ w X b15 b16 vb ib cb p v x a b c l cl ns Ac cc Ap cp Ao A Ak An Acl ccl → Calls Tryz.prog 12 #[pqV Ac cc p, .slice Ao l.length co] X fun e Y => ∃ A1 c1, e = .returned (.tuple #[.slice A1 LB.length c1, .int .i64 bE]) ∧ Rd Y 2 A1 LB.length (spcs LB) ∧ Below X.heap.size X Y
  rbnd : ∀ X, BQ w X b15 b16 vb ib cb p v x a b c l cl ns Ac cc Ap cp Ao A Ak An Acl ccl → Calls Tryz.prog 54 #[pqV Ap cp p, .slice A l.length ca] X fun e Y => ∃ A1 c1, e = .returned (.tuple #[.slice A1 LB.length c1, .int .i64 bE]) ∧ Rd Y 2 A1 LB.length (spcs LB) ∧ Below X.heap.size X Y
  sur : ∀ X, BQ w X b15 b16 vb ib cb p v x a b c l cl ns Ac cc Ap cp Ao A Ak An Acl ccl → Calls Tryz.prog 55 #[pqV Ac cc p, .slice Ao l.length co, bqV v, .int .i64 day] X fun e Y => e = .returned (.tuple #[.bool sB, .bool pB, .int .i64 sE]) ∧ Below X.heap.size X Y
  rsur : ∀ X, BQ w X b15 b16 vb ib cb p v x a b c l cl ns Ac cc Ap cp Ao A Ak An Acl ccl → Calls Tryz.prog 56 #[pqV Ap cp p, .slice A l.length ca, bqV v, .int .i64 day] X fun e Y => e = .returned (.tuple #[.bool sB, .bool pB, .int .i64 sE]) ∧ Below X.heap.size X Y
  grd : ∀ X, Calls Tryz.prog 57 #[bqI x] X fun e Y => e = .returned (.tuple #[.int .i64 gN, .int .i64 iE]) ∧ Below X.heap.size X Y
  cki : ∀ X, Calls Tryz.prog 58 #[bqI x] X fun e Y => e = .returned (.int .i64 iE) ∧ Below X.heap.size X Y
  rgr : iE = 0 → ∀ X, Calls Tryz.prog 59 #[.int .i64 x.con, .int .i64 x.thk, .int .i64 x.rid, .int .i64 x.prs] X fun e Y => e = .returned (.int .i64 gN) ∧ X = Y
  gno : iE ≠ 0 → gN = 0
  dis : ∀ X Aq cq, BQ w X b15 b16 vb ib cb p v x a b c l cl ns Ac cc Ap cp Ao A Ak An Acl ccl → Rd X 8 Aq cl.length (cels cl) → Calls Tryz.prog 61 #[.agg #[.int .i64 a, .int .i64 b, .int .i64 c, .slice Aq cl.length cq], .slice Ak ns.length ck] X fun e Y => e = .returned (.tuple #[.agg #[.int .i64 d1, .int .i64 d2], .int .i64 dE]) ∧ Below X.heap.size X Y
  ckc : ∀ X, BQ w X b15 b16 vb ib cb p v x a b c l cl ns Ac cc Ap cp Ao A Ak An Acl ccl → Calls Tryz.prog 62 #[.agg #[.int .i64 a, .int .i64 b, .int .i64 c, .slice Acl cl.length ccl]] X fun e Y => e = .returned (.int .i64 cE) ∧ Below X.heap.size X Y
  cE_ : cE = chartE a b c cl
  dE_ : dE = distE a b c cl ns
  d1_ : d1 = (distV a b c cl ns).1
  d2_ : d2 = (distV a b c cl ns).2
  sam : ∀ X, BQ w X b15 b16 vb ib cb p v x a b c l cl ns Ac cc Ap cp Ao A Ak An Acl ccl → Calls Tryz.prog 36 #[pqV Ac cc p, pqV Ap cp p] X fun e Y => e = .returned (.bool true) ∧ Below X.heap.size X Y
  sms : ∀ X, BQ w X b15 b16 vb ib cb p v x a b c l cl ns Ac cc Ap cp Ao A Ak An Acl ccl → Calls Tryz.prog 43 #[.slice Ao l.length co, .slice A l.length ca] X fun e Y => e = .returned (.bool true) ∧ Below X.heap.size X Y
  smi : ∀ X, BQ w X b15 b16 vb ib cb p v x a b c l cl ns Ac cc Ap cp Ao A Ak An Acl ccl → Calls Tryz.prog 24 #[.slice Ak ns.length ck, .slice An ns.length cn] X fun e Y => e = .returned (.bool true) ∧ Below X.heap.size X Y
  smc : ∀ X Aq cq, BQ w X b15 b16 vb ib cb p v x a b c l cl ns Ac cc Ap cp Ao A Ak An Acl ccl → Rd X 8 Aq cl.length (cels cl) → Calls Tryz.prog 63 #[.slice Aq cl.length cq, .slice Acl cl.length ccl] X fun e Y => e = .returned (.bool true) ∧ Below X.heap.size X Y
  nB : LB.length ≤ 9223372036854775807

theorem bc_all (w : World) (b15 b16 vb ib cb : Nat) (p : Pol) (v : Ves) (day : Int) (x : Ice) (a b c : Int) (l : List (Int × Int)) (cl : List Cel) (ns : List Int) (Ac : Option Addr) (cc : Nat) (Ap : Option Addr) (cp : Nat) (Ao : Option Addr) (co : Nat) (A : Option Addr) (ca : Nat) (Ak : Option Addr) (ck : Nat) (An : Option Addr) (cn : Nat) (Acl : Option Addr) (ccl : Nat)
    (hps : p.steps.length ≤ 20) (hl : l.length ≤ 420) (hcl : cl.length ≤ 100) (hns : ns.length ≤ 20) :
    BC w b15 b16 vb ib cb p v day x a b c l cl ns Ac cc Ap cp Ao co A ca Ak ck An cn Acl ccl (bndL p l) (spnE p l) (sureB p l v day) (perhB p l v day) (sureE p l v day) (gradeN x) (iceE x) (distE a b c cl ns) (distV a b c cl ns).1 (distV a b c cl ns).2 (chartE a b c cl) where
  bnd X h := (Bounds_any Ac cc p Ao co l X h.pq h.ro (by omega)).mono fun e Y ⟨A1, n, c1, h1, h2, h3, h4⟩ => by
    unfold bndL
    by_cases h0 : spnE p l = 0
    · obtain ⟨rfl, hr⟩ := h3 h0
      rw [if_pos h0, bndS_length]
      exact ⟨A1, c1, h1, hr, h2⟩
    · rw [if_neg h0]
      have := h4 h0
      subst this
      exact ⟨A1, c1, h1, Rd.nil _ _ _, h2⟩
  rbnd X h := rBounds_any Ap cp p A ca l X h.pr h.ra (by omega)
  sur X h := Sure_any Ac cc p Ao co l v day X h.pq h.ro (by omega)
  rsur X h := rSure_any Ap cp p A ca l v day X h.pr h.ra (by omega)
  grd X := Grade_any x X
  cki X := checkIce_any x X
  rgr h X := by
    have hok : iceOk x = true := by
      unfold iceE at h
      split at h
      · assumption
      · cases h
    rw [gradeN_ok hok]
    exact (rGrade_any x X hok).mono fun e Y ⟨h1, h2⟩ => ⟨h1, h2.symm⟩
  gno h := gradeN_no (fun hok => h (by unfold iceE; rw [if_pos hok]))
  dis X Aq cq h hq := District_any a b c Aq cq cl Ak ck ns X hq (by omega) h.rk (by omega)
  ckc X h := checkChart_any a b c Acl ccl cl X h.rc (by omega)
  cE_ := rfl
  dE_ := rfl
  d1_ := rfl
  d2_ := rfl
  sam X h := same_any Ac cc p Ap cp X h.pq h.pr.2.2 (by omega)
  sms X h := eqSpn_same Ao co l A ca X h.ro h.ra (by omega)
  smi X h := sameInts_any Ak ck ns An cn X h.rk h.rn (by omega)
  smc X Aq cq h hq := eqCel_same Aq cq cl Acl ccl X hq h.rc (by omega)
  nB := by
    unfold bndL; split
    · rw [bndS_length]; omega
    · simp
end Go.Proofs.YtbgnkljjgfcngaaGreat
/- The rest of a function's text from a statement on: for a great function's parts as theorems of their own. -/
namespace Go.Proofs.YtbgnkljjgfcngaaGreat
open Go

/-- is region n in it -/
def hasReg (n : Nat) : Code → Bool
  | .region k _ _ => k == n
  | .loop c => hasReg n c
  | .seq a b => hasReg n a || hasReg n b
  | .block _ c => hasReg n c
  | .scope c => hasReg n c
  | .cond _ a b => hasReg n a || hasReg n b
  | _ => false
/-- the rest of the sequence, beginning with the statement that holds region n -/
def restAt (n : Nat) : Code → Code
  | .seq a b => if hasReg n a then .seq a b else restAt n b
  | .scope c => restAt n c
  | c => c
noncomputable def restOf (f : Func) (n : Nat) : Code := restAt n (f.body.getD .skip)
end Go.Proofs.YtbgnkljjgfcngaaGreat
