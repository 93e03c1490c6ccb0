/- Cells compared with ==; runs of equal elements (plain law) -/
import Derived.Test.YtaokegobilphnaaGreatDoorLLp15
import Derived.Test.YtaokegobilphnaaGreatDoorLLp16
import Derived.Laws.StructEq
import Derived.Test.YtaokegobilphnaaGreatDoorLLp6
import Derived.Test.YtaokegobilphnaaGreatDoorLLp0
import Derived.Test.YtaokegobilphnaaGreatDoorLLp5
import Derived.RangeFuncNested
import Derived.RangeFuncBound
import Derived.RangeFuncCalls
import Derived.RangeFuncLeaves
import Derived.Shelf.Abstract
import Derived.Shelf.RegionOpen
import Derived.WalkKit
import Derived.OwnWalkIn
import Derived.TacticsInMore
import Derived.LoopNIn
import Derived.LoopIn
import Derived.Sort.CutIn
import Derived.Sort.QuietIn
import Derived.Sort.BigQuietIn
import Derived.Test.YtaokegobilphnaaGreatDoorLLp8
import Derived.Test.YtaokegobilphnaaGreatDoorLLp4
set_option linter.unusedVariables false
set_option linter.unusedSimpArgs false
namespace Go.Proofs.YtaokegobilphnaaGreatDoor
open Go Go.RowKit Go.Shelf Go.Proofs Sp Lg
set_option linter.unusedVariables false
set_option linter.unusedSimpArgs false

theorem cel_eq (x y : Cel) (w : World) : (binOp .eql 73 (.agg (celA x)) (.agg (celA y))).run Tryz.prog w = .ok (.bool (decide (x = y))) w := by
  have hS : Tryz.prog.underlying 73 = some (.struct (Tryz.prog.fieldsOf 73)) := by kernel_rfl
  have hp : Tryz.prog.stoodInHeld 73 = false := by kernel_rfl
  have u3 := Tryz.underlying71
  have z3 := Tryz.sizeOf71
  rw [run_eql_struct, show (10000 : Nat) = 9999 + 1 from rfl, run_equalIn_agg w 9999 73 _ _ hS hp]
  simp only [Program.fieldsOf, Tryz.underlying73]
  go_simp
  obtain ⟨a0, a1, b0, b1, c0, c1, d0, d1⟩ := x
  obtain ⟨e0, e1, f0, f1, g0, g1, h0, h1⟩ := y
  simp only [Cel.mk.injEq]
  repeat' split
  all_goals simp_all
/-- how many elements ahead equal x -/
def eqLen {α : Type} [DecidableEq α] (x : α) : List α → Nat
  | [] => 0
  | y :: r => if y = x then eqLen x r + 1 else 0
theorem eqLen_le {α : Type} [DecidableEq α] (x : α) : ∀ (l : List α), eqLen x l ≤ l.length
  | [] => Nat.le_refl _
  | y :: r => by
    have := eqLen_le x r
    unfold eqLen
    split
    · simp; omega
    · simp
theorem eqLen_all {α : Type} [DecidableEq α] (x : α) : ∀ (l : List α), ∀ y ∈ l.take (eqLen x l), y = x
  | [], y, h => by simp [eqLen] at h
  | z :: r, y, h => by
    unfold eqLen at h
    split at h
    · rename_i hz
      rw [List.take_succ_cons] at h
      rcases List.mem_cons.1 h with rfl | h
      · exact hz
      · exact eqLen_all x r y h
    · simp at h
/-- where the count stands: n elements ahead are equal, the next one decides -/
theorem eqLen_step {α : Type} [DecidableEq α] (x : α) : ∀ (l : List α) (n : Nat), n ≤ eqLen x l → (∀ (h : n < l.length), (l[n] = x ↔ n < eqLen x l)) ∧ (l.length ≤ n → eqLen x l = n)
  | [], n, h => ⟨fun h => by simp at h, fun _ => by simp [eqLen] at h ⊢; omega⟩
  | y :: r, n, h => by
    have hl := eqLen_le x (y :: r)
    refine ⟨fun hn => ?_, fun hn => by omega⟩
    cases n with
    | zero =>
      unfold eqLen
      simp only [List.getElem_cons_zero]
      constructor
      · intro e; rw [if_pos e]; omega
      · intro e
        split at e
        · assumption
        · omega
    | succ n =>
      unfold eqLen at h ⊢
      split at h
      · rename_i hy
        rw [if_pos hy]
        have := (eqLen_step x r n (by omega)).1 (by simpa using hn)
        simp only [List.getElem_cons_succ]
        rw [this]; omega
      · omega
/-- the runs of equal elements: where each begins, and how long it is -/
def runsF {α : Type} [DecidableEq α] : Nat → List α → Nat → List (Nat × Nat)
  | 0, _, _ => []
  | _ + 1, [], _ => []
  | f + 1, x :: r, i => (i, eqLen x r + 1) :: runsF f (r.drop (eqLen x r)) (i + (eqLen x r + 1))
def runsP {α : Type} [DecidableEq α] (l : List α) : List (Nat × Nat) := runsF l.length l 0
theorem runsF_fuel {α : Type} [DecidableEq α] : ∀ (f g : Nat) (l : List α) (i : Nat), l.length ≤ f → l.length ≤ g → runsF f l i = runsF g l i
  | 0, g, l, i, hf, hg => by
    have : l = [] := List.length_eq_zero_iff.1 (by omega)
    subst this
    cases g <;> rfl
  | f + 1, 0, l, i, hf, hg => by
    have : l = [] := List.length_eq_zero_iff.1 (by omega)
    subst this
    rfl
  | f + 1, g + 1, [], i, hf, hg => rfl
  | f + 1, g + 1, x :: r, i, hf, hg => by
    rw [runsF, runsF, runsF_fuel f g _ _ (by simp at hf ⊢; omega) (by simp at hg ⊢; omega)]
theorem runsF_cons {α : Type} [DecidableEq α] {l : List α} {i : Nat} (h : i < l.length) : runsF (l.drop i).length (l.drop i) i = (i, eqLen l[i] (l.drop (i + 1)) + 1) :: runsF (l.drop (i + (eqLen l[i] (l.drop (i + 1)) + 1))).length (l.drop (i + (eqLen l[i] (l.drop (i + 1)) + 1))) (i + (eqLen l[i] (l.drop (i + 1)) + 1)) := by
  obtain ⟨k, hk⟩ : ∃ k, k = eqLen l[i] (l.drop (i + 1)) := ⟨_, rfl⟩
  rw [← hk]
  rw [List.drop_eq_getElem_cons h, List.length_cons, runsF, ← hk, List.drop_drop]
  rw [show i + 1 + k = i + (k + 1) from by omega]
  rw [runsF_fuel (l.drop (i + 1)).length (l.drop (i + (k + 1))).length _ _ (by rw [List.length_drop, List.length_drop]; omega) (Nat.le_refl _)]
theorem runsF_len {α : Type} [DecidableEq α] : ∀ (f : Nat) (l : List α) (i : Nat), (runsF f l i).length ≤ l.length
  | 0, l, i => by simp [runsF]
  | f + 1, [], i => by simp [runsF]
  | f + 1, x :: r, i => by
    have := runsF_len f (r.drop (eqLen x r)) (i + (eqLen x r + 1))
    rw [runsF, List.length_cons]
    rw [List.length_drop] at this
    simp; omega
end Go.Proofs.YtaokegobilphnaaGreatDoor
/- Changes of cells: in memory, and compared with == -/
namespace Go.Proofs.YtaokegobilphnaaGreatDoor
open Go Go.RowKit Go.Shelf Go.Proofs Sp Lg
set_option linter.unusedVariables false
set_option linter.unusedSimpArgs false

/-- what becomes of a cell -/
structure Chg where
  is : Bool
  cel : Cel
deriving DecidableEq, Inhabited
def chg (x : Chg) : List Value := [.bool x.is, .int .i64 x.cel.a0, .int .i64 x.cel.a1, .int .i64 x.cel.b0, .int .i64 x.cel.b1, .int .i64 x.cel.c0, .int .i64 x.cel.c1, .int .i64 x.cel.d0, .int .i64 x.cel.d1]
abbrev chgA (x : Chg) : Array Value := #[.bool x.is, .int .i64 x.cel.a0, .int .i64 x.cel.a1, .int .i64 x.cel.b0, .int .i64 x.cel.b1, .int .i64 x.cel.c0, .int .i64 x.cel.c1, .int .i64 x.cel.d0, .int .i64 x.cel.d1]
def chgs (l : List Chg) : List Value := l.flatMap chg
theorem chgs_one (l : List Chg) : ∀ u ∈ chgs l, u.oneCell' = true := by
  intro u hu
  simp only [chgs, chg, List.mem_flatMap] at hu
  obtain ⟨x, _, hx⟩ := hu
  simp at hx
  rcases hx with rfl | rfl | rfl | rfl | rfl | rfl | rfl | rfl | rfl <;> rfl
theorem chgs_len (l : List Chg) : (chgs l).length = l.length * 9 := by
  induction l with
  | nil => rfl
  | cons x l ih => rw [show chgs (x :: l) = chg x ++ chgs l from by simp [chgs], List.length_append, ih]; simp [chg]; omega
theorem chgs_snoc (l : List Chg) (x : Chg) : chgs (l ++ [x]) = chgs l ++ chg x := by simp [chgs]
theorem chgs_get {l : List Chg} {k : Nat} (hk : k < l.length) : (chgs l)[k*9]? = some (.bool l[k].is) ∧ (chgs l)[k*9+1]? = some (.int .i64 l[k].cel.a0) ∧ (chgs l)[k*9+2]? = some (.int .i64 l[k].cel.a1) ∧ (chgs l)[k*9+3]? = some (.int .i64 l[k].cel.b0) ∧
    (chgs l)[k*9+4]? = some (.int .i64 l[k].cel.b1) ∧ (chgs l)[k*9+5]? = some (.int .i64 l[k].cel.c0) ∧ (chgs l)[k*9+6]? = some (.int .i64 l[k].cel.c1) ∧ (chgs l)[k*9+7]? = some (.int .i64 l[k].cel.d0) ∧ (chgs l)[k*9+8]? = some (.int .i64 l[k].cel.d1) := by
  induction l generalizing k with
  | nil => simp at hk
  | cons s l ih =>
    cases k with
    | zero => simp [chgs, chg]
    | succ k =>
      have h4 : ∀ j, (chgs (s :: l))[9 + j]? = (chgs l)[j]? := fun j => by
        simp only [chgs, List.flatMap_cons, chg]
        rw [List.getElem?_append_right (by simp)]
        simp
      have e : ∀ j, (k+1)*9 + j = 9 + (k*9 + j) := fun j => by omega
      have e0 : (k+1)*9 = 9 + k*9 := by omega
      have hk' : k < l.length := by simpa using hk
      rw [e, e, e, e, e, e, e, e, e0, h4, h4, h4, h4, h4, h4, h4, h4, h4]
      simpa using ih hk'
theorem chg_eq (x y : Chg) (w : World) : (binOp .eql 153 (.agg (chgA x)) (.agg (chgA y))).run Tryz.prog w = .ok (.bool (decide (x = y))) w := by
  have hS : Tryz.prog.underlying 153 = some (.struct (Tryz.prog.fieldsOf 153)) := by kernel_rfl
  have hp : Tryz.prog.stoodInHeld 153 = false := by kernel_rfl
  have u3 := Tryz.underlying71
  have z3 := Tryz.sizeOf71
  have u4 := Tryz.underlying73
  have z4 := Tryz.sizeOf73
  rw [run_eql_struct, show (10000 : Nat) = 9999 + 1 from rfl, run_equalIn_agg w 9999 153 _ _ hS hp]
  simp only [Program.fieldsOf, Tryz.underlying153]
  go_simp
  obtain ⟨xi, a0, a1, b0, b1, c0, c1, d0, d1⟩ := x
  obtain ⟨yi, e0, e1, f0, f1, g0, g1, h0, h1⟩ := y
  simp only [Chg.mk.injEq, Cel.mk.injEq]
  repeat' split
  all_goals simp_all
end Go.Proofs.YtaokegobilphnaaGreatDoor
/- As XLgW, for an iterator that yields several values a round. -/
namespace Go.Proofs.YtaokegobilphnaaGreatDoor
open Go Go.RowKit Go.Shelf Go.Proofs
set_option linter.unusedVariables false

/-- what an iterator with a variable at tb gives: each of the things of S, one a round -/
def SeqT2 {α : Type} (F : Fence) (n : Nat) (P : Program) (g : Nat) (lb : Array Value) (enc : α → Array Value) (tb : Nat) (KK : World → Prop) (S : List α → Prop) (N : Nat) (w : World) : Prop :=
  ∀ (l : Nat) (J : List α → World → Prop) (W : World), Below w.heap.size w W → W.heap[tb]? = w.heap[tb]? → (∀ s A B, J s A → Keep [] A B → J s B) → (∀ s A, J s A → KK A) →
    (∀ pre x W1, J pre W1 → pre.length < N → YieldAt F (n - 1) P l (enc x) W1 fun e W' => e = .returned (.bool true) ∧ J (pre ++ [x]) W' ∧ W1.heap.size ≤ W'.heap.size ∧ W'.heap[tb]? = W1.heap[tb]?) →
    J [] W → CallsIn F n P g (#[.func (.yield l) #[] #[]] ++ lb) W fun e W' => (∃ v, e = .returned v) ∧ ∃ xs, S xs ∧ J xs W'
/-- nothing but what is no cells has changed -/
structure SimZ (B : Nat) (A C : World) : Prop where
  os : A.os = C.os
  tape : A.tape = C.tape
  output : A.output = C.output
  size : A.heap.size ≤ C.heap.size
  same : ∀ (k : Nat) (o : Obj), A.heap[k]? = some o → (B ≤ k → o.isCells = true) → C.heap[k]? = some o
theorem SimZ.of_keep {B : Nat} {A C : World} (h : Keep [] A C) : SimZ B A C :=
  ⟨h.os.symm, h.tape.symm, h.output.symm, h.size, fun k o hk _ => (h.block k (Array.getElem?_eq_some_iff.1 hk).1 (by simp)).trans hk⟩
theorem SimZ.put {B l : Nat} {A : World} {o o' : Obj} (hB : B ≤ l) (hl : A.heap[l]? = some o) (ho : o.isCells = false) : SimZ B A (A.putObj l o') := by
  refine ⟨rfl, rfl, rfl, by simp [World.putObj], fun k q hk hc => ?_⟩
  by_cases e : k = l
  · subst e
    rw [hl] at hk
    injection hk with hk
    subst hk
    rw [ho] at hc
    exact absurd (hc hB) (by simp)
  · rw [World.putObj_heap_other e]; exact hk
theorem SimZ.alloc {B : Nat} {A : World} (o : Obj) : SimZ B A (A.alloc o) :=
  ⟨rfl, rfl, rfl, by simp, fun k q hk _ => heap_alloc' hk _⟩
theorem SimZ.sim {B tb : Nat} {A C : World} (h : SimZ B A C) : Sim B tb A C := ⟨h.os, h.tape, h.output, h.size, fun k o hk _ hc => h.same k o hk hc⟩
theorem SimZ.bel {B D : Nat} {W0 A C : World} (hs : SimZ B A C) (h : Below D W0 A) (hD : D ≤ B) (hl : D ≤ A.heap.size) : Below D W0 C :=
  ⟨by rw [← hs.os]; exact h.os, by rw [← hs.tape]; exact h.tape, by rw [← hs.output]; exact h.output, Nat.le_trans h.size hs.size, fun k hk => by
    have hkA : k < A.heap.size := by omega
    have e := hs.same k _ (Array.getElem?_eq_getElem hkA) (fun h => absurd h (by omega))
    rw [e, ← Array.getElem?_eq_getElem hkA]
    exact h.block k hk⟩
variable {F : Fence} {n : Nat} {P : Program}
theorem range_tb2 {α : Type} {g : Operand} {ps : Array Tmp} {assign body : Code} {Q : Exit → Act → World → Prop} {a : Act} {w w0 : World} {enc : α → Array Value} {tb N gf : Nat} {lb : Array Value} {KK : World → Prop} {S : List α → Prop}
    (hro : F.round = none) (h1 : 1 ≤ n) (hg : a.eval g = .func (.func gf) #[] lb) (hFg : F.fn gf) (eg : ∀ args w, (callFunc gf args).run P w = .ok (.enter gf args) w)
    (hseq : SeqT2 F (n - 1) P gf lb enc tb KK S N w0) (hb0 : Below w0.heap.size w0 w) (ht0 : w.heap[tb]? = w0.heap[tb]?) (htb : tb < w.heap.size) (hps : ∀ x, (enc x).size = ps.size)
    (I : List α → World → Prop) (hI : ∀ s A C, I s A → SimZ w.heap.size A C → I s C) (hKI : ∀ s A, I s A → KK A) (h0 : I [] w) (a1 : α → Act)
    (hassign : ∀ (l : Nat) (x : α) (W : World) (K : Act → World → Prop), K (a1 x) W → assign.wpIn (F.inRound l) (n - 1 - 1) P (Exit.then K (fun _ _ _ => False)) { tmps := (ps.zip (enc x)).foldl (fun t (p, v) => t.setIfInBounds p v) a.tmps, defers := [] } W)
    (hbody : ∀ (l : Nat) (pre : List α) (x : α) (W : World), I pre W → pre.length < N → tb < W.heap.size → body.wpIn (F.inRound l) (n - 1 - 1) P (fun e _ W' => e = .normal ∧ KeepsOthers W W' ∧ W.heap.size ≤ W'.heap.size ∧ W'.heap[tb]? = W.heap[tb]? ∧ I (pre ++ [x]) W') (a1 x) W)
    (hdone : ∀ (D : Nat) (xs : List α) (W : World), w.heap.size ≤ D → S xs → I xs W → W.heap[D]? = some (.deferred (some [])) → Q .normal { a with defers := { target := .collected D, args := #[] } :: a.defers } W) :
    (Code.rangeFunc g ps assign body).wpIn F n P Q a w := by
  refine wpIn_rangeFunc fun fn hfn => ?_
  rw [hro]
  obtain ⟨D, hD⟩ : ∃ D, D = w.heap.size := ⟨_, rfl⟩
  obtain ⟨R, hR⟩ : ∃ R : LoopState → Loop, R = fun st => { state := st, pending := none, fn := fn, tmps := a.tmps, params := ps, assign := assign, body := body, defers := w.heap.size } := ⟨_, rfl⟩
  obtain ⟨V, hV⟩ : ∃ V, V = (w.alloc (.deferred (some []))).alloc (.loop (R .ready)) := ⟨_, rfl⟩
  have hVD : V.heap[D]? = some (.deferred (some [])) := by rw [hV, hD]; exact heap_alloc' (heap_alloc_new _ _) _
  have hVL : V.heap[D + 1]? = some (.loop (R .ready)) := by
    have := heap_alloc_new (w.alloc (.deferred (some []))) (.loop (R .ready))
    rw [World.size_alloc] at this
    rw [hV, hD]; exact this
  have hVI : I [] V := by rw [hV]; exact hI _ _ _ (hI _ _ _ h0 (SimZ.alloc _)) (SimZ.alloc _)
  have hVb : Below w0.heap.size w0 V := by rw [hV]; exact hb0.trans ((((Below.refl _ w).alloc (Nat.le_refl _) _).alloc (by simp) _).mono hb0.size)
  have hVt : V.heap[tb]? = w0.heap[tb]? := by
    rw [← ht0]
    obtain ⟨o, ho⟩ : ∃ o, w.heap[tb]? = some o := ⟨_, Array.getElem?_eq_getElem htb⟩
    rw [ho, hV]; exact heap_alloc' (heap_alloc' ho _) _
  refine ⟨D + 1, [{ target := .collected D, args := #[] }], V, { target := .fn (.func gf) lb, args := #[.func (.yield (D + 1)) #[] #[]] }, V, gf, #[.func (.yield (D + 1)) #[] #[]] ++ lb, V, ?_, ?_, ?_, ?_, fun _ => h1, ?_⟩
  · rw [hV, hR, hD]; exact run_enterLoop_outer _ _ _ _ _
  · simp only [resolve, hg]
    simp [go_sem]
  · intro f hf
    simp [Target.leads] at hf
    subst hf
    exact hFg
  · simp [invoke, go_sem, eg]
  · have hDt : D ≠ tb ∧ D + 1 ≠ tb := by omega
    refine (hseq (D + 1) (fun pre W => I pre W ∧ W.heap[D + 1]? = some (.loop (R .ready)) ∧ W.heap[D]? = some (.deferred (some []))) V hVb hVt ?_ (fun s A h => hKI s A h.1) ?_ ⟨hVI, hVL, hVD⟩).mono ?_
    · rintro s A B ⟨j1, j2, j3⟩ hk
      exact ⟨hI _ _ _ j1 (SimZ.of_keep hk), (hk.block _ (Array.getElem?_eq_some_iff.1 j2).1 (by simp)).trans j2, (hk.block _ (Array.getElem?_eq_some_iff.1 j3).1 (by simp)).trans j3⟩
    · rintro pre x W ⟨j1, j2, j3⟩ hN
      have hlt : D + 1 < W.heap.size := (Array.getElem?_eq_some_iff.1 j2).1
      have hy := run_yield (P := P) (args := (enc x)) j2 (by rw [hR]; simp [hps])
      rw [hR] at hy
      refine ⟨fn, _, assign, body, hy, roundIn_of_wpIn hfn (hassign _ x W _ ⟨_, run_beginRound j2 (by rw [hR]), ?_⟩)⟩
      obtain ⟨X, hX⟩ : ∃ X, X = W.putObj (D + 1) (.loop { R .ready with state := .busy }) := ⟨_, rfl⟩
      have x2 : X.heap[D + 1]? = some (.loop { R .ready with state := .busy }) := by rw [hX]; exact World.putObj_heap_same hlt
      have x3 : X.heap[D]? = some (.deferred (some [])) := by rw [hX, World.putObj_heap_other (by omega)]; exact j3
      have xt : X.heap[tb]? = W.heap[tb]? := by rw [hX, World.putObj_heap_other (by omega)]
      have xs : X.heap.size = W.heap.size := by rw [hX]; simp [World.putObj]
      have xI : I pre X := by rw [hX]; exact hI _ _ _ j1 (SimZ.put (by omega) j2 rfl)
      rw [← hX]
      refine wpIn_mono (hbody _ pre x X xI hN (by omega)) ?_
      rintro e a3 W3 ⟨rfl, hk3, hs3, ht3, hi3⟩
      have y2 := hk3.same _ _ x2 rfl
      have y3 := hk3.same _ _ x3 rfl
      have he := run_endRound (P := P) none y2
      refine ⟨_, _, he, rfl, ⟨hI _ _ _ hi3 (SimZ.put (by omega) y2 rfl), ?_, ?_⟩, ?_, ?_⟩
      · rw [World.putObj_heap_same (Array.getElem?_eq_some_iff.1 y2).1, hR]; rfl
      · rw [World.putObj_heap_other (by omega)]; exact y3
      · simp only [World.putObj, Array.size_setIfInBounds]; omega
      · rw [World.putObj_heap_other (by omega), ht3, xt]
    · rintro e W2 ⟨⟨v, rfl⟩, xs, hS, j1, j2, j3⟩
      have hq := fun o => hdone D xs (W2.putObj (D + 1) (.loop o)) (by omega) hS (hI _ _ _ j1 (SimZ.put (by omega) j2 rfl)) (by rw [World.putObj_heap_other (by omega)]; exact j3)
      subst hR
      have he := run_endLoop (P := P) j2 (by simp)
      exact ⟨none, _, he, hq _⟩
end Go.Proofs.YtaokegobilphnaaGreatDoor
/- log.runs over cells (printed by tools/lgrn.py) -/
namespace Go.Proofs.YtaokegobilphnaaGreatDoor
open Go Go.RowKit Go.Shelf Go.Proofs Sp Lg
attribute [local go_sem] Oper.semAt_some
set_option linter.unusedVariables false
set_option linter.unusedSimpArgs false

theorem gRuns_any (A : Option Addr) (n c : Nat) (w : World) :
    Calls Tryz.prog 88 #[.slice A n c] w fun e w' => e = .returned (.func (.func 131) #[] #[.pointer (some ⟨w.heap.size, 0, none⟩)]) ∧ w' = w.alloc (.cells #[.slice A n c] 55) := by
  have hmf : ∀ (fn : Fn) (first cap : Array Value) (w : World), (Instr.makeFunc fn first cap).run Tryz.prog w = .ok (.func fn first cap) w := fun _ _ _ _ => rfl
  go_enter Tryz.func88, Tryz.ntmps88
  go_wp2_with fail
  go_ret
  exact ⟨rfl, rfl⟩
/-- a run within n elements -/
abbrev Rn (n : Nat) := { p : Nat × Nat // p.1 + p.2 ≤ n ∧ 1 ≤ p.2 }
def rnB {n : Nat} (pre : List (Rn n)) : List (Nat × Nat) := pre.map (·.1)
set_option maxRecDepth 100000 in
set_option maxHeartbeats 4000000 in
theorem runs1_seq (tb : Nat) (A : Option Addr) (c : Nat) (l : List Cel) (w : World) (ht : w.heap[tb]? = some (.cells #[.slice A l.length c] 55 (0, 0))) (hl : l.length ≤ 1000000) (N n : Nat) (hN : l.length ≤ N) (hn : 1 ≤ n) :
    SeqT2 Fence.wide n Tryz.prog 131 #[.pointer (some ⟨tb, 0, none⟩)] (fun p : Rn l.length => #[.int .i64 p.1.1, .int .i64 p.1.2]) tb (fun w => Rd w 8 A l.length (cels l)) (fun xs => rnB xs = runsP l) N w := by
  intro lp J W hW htb hJ hKK hY h0
  have htW := htb.trans ht
  have HY := Lib.hid (And.intro hJ (And.intro hY (And.intro h0 (And.intro htW (And.intro hN hKK)))))
  clear hJ hY h0 htW htb ht hW hN hKK
  refine callsIn_of_wp Tryz.func131 rfl trivial ?_ rfl
  simp only [Tryz.ntmps131, List.size_toArray, List.length_cons, List.length_nil, Nat.reduceAdd, Nat.reduceSub, Array.replicate_succ, Array.replicate_zero, List.push_toArray, List.append_toArray, List.nil_append, List.cons_append]
  gi_wp2
  gi_loopw [3] (fun e wr => ∃ (pre : List (Rn l.length)) (i : Nat), J pre wr ∧ wr.heap[tb]? = some (.cells #[.slice A l.length c] 55 (0, 0)) ∧ e = .int .i64 i ∧ i ≤ l.length ∧ pre.length ≤ i ∧ runsP l = rnB pre ++ runsF (l.drop i).length (l.drop i) i) (fun e wr => l.length - (intOf e).toNat)
  case atStart => exact ⟨[], 0, HY.out.2.2.1, HY.out.2.2.2.1, rfl, Nat.zero_le _, Nat.le_refl _, rfl⟩
  case round =>
    obtain ⟨pre, i, hJp, htr, rfl, hil, hpi, hrn⟩ := hrel
    have t0 := (cell_of_heap htr 0).trans rfl
    have zt := heap_lt htr
    by_cases h0 : i < l.length
    · have hrd := HY.out.2.2.2.2.2 _ _ hJp
      obtain ⟨b, off, rfl, hb, hcc⟩ := hrd.2 (by omega)
      obtain ⟨x, hx⟩ : ∃ x, x = l[i] := ⟨_, rfl⟩
      obtain ⟨s0, s1, s2, s3, s4, s5, s6, s7⟩ := cels_get (l := l) (k := i) h0
      rw [← hx] at s0 s1 s2 s3 s4 s5 s6 s7
      have c0 : wr.cell? ⟨b, off + i * 8, none⟩ = some (.int .i64 x.a0) := hcc _ _ s0
      have c1 : wr.cell? ⟨b, off + i * 8 + 1, none⟩ = some (.int .i64 x.a1) := by rw [Nat.add_assoc]; exact hcc _ _ s1
      have c2 : wr.cell? ⟨b, off + i * 8 + 2, none⟩ = some (.int .i64 x.b0) := by rw [Nat.add_assoc]; exact hcc _ _ s2
      have c3 : wr.cell? ⟨b, off + i * 8 + 3, none⟩ = some (.int .i64 x.b1) := by rw [Nat.add_assoc]; exact hcc _ _ s3
      have c4 : wr.cell? ⟨b, off + i * 8 + 4, none⟩ = some (.int .i64 x.c0) := by rw [Nat.add_assoc]; exact hcc _ _ s4
      have c5 : wr.cell? ⟨b, off + i * 8 + 5, none⟩ = some (.int .i64 x.c1) := by rw [Nat.add_assoc]; exact hcc _ _ s5
      have c6 : wr.cell? ⟨b, off + i * 8 + 6, none⟩ = some (.int .i64 x.d0) := by rw [Nat.add_assoc]; exact hcc _ _ s6
      have c7 : wr.cell? ⟨b, off + i * 8 + 7, none⟩ = some (.int .i64 x.d1) := by rw [Nat.add_assoc]; exact hcc _ _ s7
      have hrc := runsF_cons h0
      rw [← hx] at hrc
      obtain ⟨q, hq⟩ : ∃ q, q = eqLen x (l.drop (i + 1)) := ⟨_, rfl⟩
      rw [← hq] at hrc
      have hq1 : i + 1 + q ≤ l.length := by rw [hq]; have := eqLen_le x (l.drop (i + 1)); rw [List.length_drop] at this; omega
      have HR := Lib.hid (And.intro hJp (And.intro htr (And.intro hrn (And.intro hrc (And.intro hcc (And.intro hq (And.intro hq1 (And.intro hx (And.intro hpi hrd)))))))))
      clear hJp htr hrn hrc hcc hq hq1 s0 s1 s2 s3 s4 s5 s6 s7 hx hpi hrd
      gi_wp2
      gi_loopw [4] (fun e wx => ∃ m k : Nat, e = .int .i64 m ∧ 1 ≤ m ∧ m ≤ q + 1 ∧ wx = wr.drewN k) (fun e wx => l.length + 1 - (intOf e).toNat)
      case atStart => exact ⟨1, 0, rfl, by omega, by omega, rfl⟩
      case round =>
        obtain ⟨m, kk, rfl, hm1, hm2, rfl⟩ := hrel
        obtain ⟨wx, hwx⟩ : ∃ u, u = wr.drewN kk := ⟨_, rfl⟩
        have t1 : wx.cell? ⟨tb, 0, none⟩ = some (.slice (some ⟨b, off, none⟩) l.length c) := by rw [hwx]; exact t0
        have zx : tb < wx.heap.size := by rw [hwx]; exact zt
        have zb : b < wx.heap.size := by rw [hwx]; exact hb
        have e0 : wx.cell? ⟨b, off + i * 8, none⟩ = some (.int .i64 x.a0) := by rw [hwx]; exact c0
        have e1 : wx.cell? ⟨b, off + i * 8 + 1, none⟩ = some (.int .i64 x.a1) := by rw [hwx]; exact c1
        have e2 : wx.cell? ⟨b, off + i * 8 + 2, none⟩ = some (.int .i64 x.b0) := by rw [hwx]; exact c2
        have e3 : wx.cell? ⟨b, off + i * 8 + 3, none⟩ = some (.int .i64 x.b1) := by rw [hwx]; exact c3
        have e4 : wx.cell? ⟨b, off + i * 8 + 4, none⟩ = some (.int .i64 x.c0) := by rw [hwx]; exact c4
        have e5 : wx.cell? ⟨b, off + i * 8 + 5, none⟩ = some (.int .i64 x.c1) := by rw [hwx]; exact c5
        have e6 : wx.cell? ⟨b, off + i * 8 + 6, none⟩ = some (.int .i64 x.d0) := by rw [hwx]; exact c6
        have e7 : wx.cell? ⟨b, off + i * 8 + 7, none⟩ = some (.int .i64 x.d1) := by rw [hwx]; exact c7
        rw [← hwx]
        have hst := eqLen_step x (l.drop (i + 1)) (m - 1) (by have := HR.out.2.2.2.2.2.1; omega)
        rw [← HR.out.2.2.2.2.2.1] at hst
        have hdl : (l.drop (i + 1)).length = l.length - (i + 1) := List.length_drop ..
        have hb6 : i ≤ 1000000 := by omega
        have hb7 : m ≤ 1000001 := by have := HR.out.2.2.2.2.2.2.1; omega
        obtain ⟨j, hj⟩ : ∃ j, j = i + m := ⟨_, rfl⟩
        have hij : (i : Int) + (m : Int) = (j : Int) := by omega
        have hwj : IntKind.i64.wrap (j : Int) = (j : Int) := IntWalk.i64_in _ (by omega)
        have hi0 : (0 : Int) ≤ (i : Int) ∧ (i : Int) < (l.length : Int) := by omega
        by_cases hjl : j < l.length
        · have hcc : ∀ j u, (cels l)[j]? = some u → wx.cell? ⟨b, off + j, none⟩ = some u := by rw [hwx]; exact HR.out.2.2.2.2.1
          obtain ⟨y, hyl⟩ : ∃ y, y = l[j] := ⟨_, rfl⟩
          obtain ⟨t0, t1, t2, t3, t4, t5, t6, t7⟩ := cels_get (l := l) (k := j) hjl
          rw [← hyl] at t0 t1 t2 t3 t4 t5 t6 t7
          have d0 : wx.cell? ⟨b, off + j * 8, none⟩ = some (.int .i64 y.a0) := hcc _ _ t0
          have d1 : wx.cell? ⟨b, off + j * 8 + 1, none⟩ = some (.int .i64 y.a1) := by rw [Nat.add_assoc]; exact hcc _ _ t1
          have d2 : wx.cell? ⟨b, off + j * 8 + 2, none⟩ = some (.int .i64 y.b0) := by rw [Nat.add_assoc]; exact hcc _ _ t2
          have d3 : wx.cell? ⟨b, off + j * 8 + 3, none⟩ = some (.int .i64 y.b1) := by rw [Nat.add_assoc]; exact hcc _ _ t3
          have d4 : wx.cell? ⟨b, off + j * 8 + 4, none⟩ = some (.int .i64 y.c0) := by rw [Nat.add_assoc]; exact hcc _ _ t4
          have d5 : wx.cell? ⟨b, off + j * 8 + 5, none⟩ = some (.int .i64 y.c1) := by rw [Nat.add_assoc]; exact hcc _ _ t5
          have d6 : wx.cell? ⟨b, off + j * 8 + 6, none⟩ = some (.int .i64 y.d0) := by rw [Nat.add_assoc]; exact hcc _ _ t6
          have d7 : wx.cell? ⟨b, off + j * 8 + 7, none⟩ = some (.int .i64 y.d1) := by rw [Nat.add_assoc]; exact hcc _ _ t7
          have hlj : decide ((j : Int) < (l.length : Int)) = true := decide_eq_true (by omega)
          have hlj2 : decide (j < l.length) = true := decide_eq_true hjl
          have hj0 : (0 : Int) ≤ (j : Int) ∧ (j : Int) < (l.length : Int) := by omega
          have hyx : y = x ↔ m - 1 < q := by
            have := hst.1 (by omega)
            rw [hyl]
            rw [← this, List.getElem_drop]
            have e : i + 1 + (m - 1) = j := by omega
            simp only [e]
          clear t0 t1 t2 t3 t4 t5 t6 t7 hcc hyl hst hj hdl
          by_cases hyx2 : y = x
          · have hE : ∀ w, (binOp .eql 73 (.agg (celA y)) (.agg (celA x))).run Tryz.prog w = .ok (.bool true) w := fun w => by rw [cel_eq]; simp [hyx2]
            have HX := Lib.hid (And.intro (hyx.1 hyx2) hwx)
            clear hyx hyx2 hwx
            gi_upto_region 3 with fail
            gi_quiet (fail)
            gi_wp2
            go_roundw
            case rel => exact ⟨m + 1, kk + nq, by go_num, by omega, by have := HX.out.1; omega, by rw [HX.out.2, World.drewN_drewN]⟩
            case measure => simp [intOf]; omega
          · have hE : ∀ w, (binOp .eql 73 (.agg (celA y)) (.agg (celA x))).run Tryz.prog w = .ok (.bool false) w := fun w => by rw [cel_eq]; simp [hyx2]
            have hmq : m = q + 1 := by have : ¬ m - 1 < q := fun h => hyx2 (hyx.2 h); omega
            clear hyx hyx2
            have HMQ := Lib.hid (And.intro hmq hwx)
            clear hmq hwx
            gi_upto_region 3 with fail
            gi_quiet (fail)
            obtain ⟨hmq, hwx⟩ := HMQ.out
            obtain ⟨wy, hwy⟩ : ∃ u, u = wx.drewN nq := ⟨_, rfl⟩
            rw [← hwy]
            have hJy : J pre wy := by rw [hwy, hwx]; exact HY.out.1 _ _ _ HR.out.1 (((Keep.refl _ _).drewN _).drewN _)
            have hty : wy.heap[tb]? = some (.cells #[.slice (some ⟨b, off, none⟩) l.length c] 55 (0, 0)) := by rw [hwy, hwx]; exact HR.out.2.1
            have hpr : i + m ≤ l.length ∧ 1 ≤ m := by have := HR.out.2.2.2.2.2.2.1; omega
            obtain ⟨fn, tmps, assign, body, hy, hR⟩ := HY.out.2.1 pre ⟨(i, m), hpr⟩ wy hJy (by have := HR.out.2.2.2.2.2.2.2.2.1; have := HY.out.2.2.2.2.1; omega)
            dsimp only at hy
            have HQ := Lib.hid (And.intro hR (And.intro hty hmq))
            clear hR hty hJy hwy hwx hmq
            gi_wp2
            refine HQ.out.1.mono ?_
            rintro e W3 ⟨rfl, hJ3, hs3, ht3⟩
            have ht3' := ht3.trans HQ.out.2.1
            have H3 := Lib.hid (And.intro hJ3 ht3')
            have z3 := heap_lt ht3'
            have u3 := (cell_of_heap ht3' 0).trans rfl
            clear hJ3 hs3 ht3 ht3' hy
            gi_wp2
            go_roundw
            case rel =>
              refine ⟨_, i + m, H3.out.1, H3.out.2, by go_num, by have := HR.out.2.2.2.2.2.2.1; have := HQ.out.2.2; omega, ?_, ?_⟩
              · rw [List.length_append]; have := HR.out.2.2.2.2.2.2.2.2.1; simp; omega
              · have e1 := HR.out.2.2.1
                rw [HR.out.2.2.2.1, ← HQ.out.2.2] at e1
                rw [e1]
                simp [rnB]
            case measure =>
              simp [intOf]
              omega
        · have hlj : decide ((j : Int) < (l.length : Int)) = false := decide_eq_false (by omega)
          have hlj2 : decide (j < l.length) = false := decide_eq_false hjl
          have hmq : m = q + 1 := by have := hst.2 (by omega); omega
          clear hst hj hdl
          have HMQ := Lib.hid (And.intro hmq hwx)
          clear hmq hwx
          gi_upto_region 3 with fail
          gi_quiet (fail)
          obtain ⟨hmq, hwx⟩ := HMQ.out
          obtain ⟨wy, hwy⟩ : ∃ u, u = wx.drewN nq := ⟨_, rfl⟩
          rw [← hwy]
          have hJy : J pre wy := by rw [hwy, hwx]; exact HY.out.1 _ _ _ HR.out.1 (((Keep.refl _ _).drewN _).drewN _)
          have hty : wy.heap[tb]? = some (.cells #[.slice (some ⟨b, off, none⟩) l.length c] 55 (0, 0)) := by rw [hwy, hwx]; exact HR.out.2.1
          have hpr : i + m ≤ l.length ∧ 1 ≤ m := by have := HR.out.2.2.2.2.2.2.1; omega
          obtain ⟨fn, tmps, assign, body, hy, hR⟩ := HY.out.2.1 pre ⟨(i, m), hpr⟩ wy hJy (by have := HR.out.2.2.2.2.2.2.2.2.1; have := HY.out.2.2.2.2.1; omega)
          dsimp only at hy
          have HQ := Lib.hid (And.intro hR (And.intro hty hmq))
          clear hR hty hJy hwy hwx hmq
          gi_wp2
          refine HQ.out.1.mono ?_
          rintro e W3 ⟨rfl, hJ3, hs3, ht3⟩
          have ht3' := ht3.trans HQ.out.2.1
          have H3 := Lib.hid (And.intro hJ3 ht3')
          have z3 := heap_lt ht3'
          have u3 := (cell_of_heap ht3' 0).trans rfl
          clear hJ3 hs3 ht3 ht3' hy
          gi_wp2
          go_roundw
          case rel =>
            refine ⟨_, i + m, H3.out.1, H3.out.2, by go_num, by have := HR.out.2.2.2.2.2.2.1; have := HQ.out.2.2; omega, ?_, ?_⟩
            · rw [List.length_append]; have := HR.out.2.2.2.2.2.2.2.2.1; simp; omega
            · have e1 := HR.out.2.2.1
              rw [HR.out.2.2.2.1, ← HQ.out.2.2] at e1
              rw [e1]
              simp [rnB]
          case measure =>
            simp [intOf]
            omega
    · have hil2 : i = l.length := by omega
      have HQ := Lib.hid (And.intro hJp (And.intro hrn hil2))
      have h0' : ¬ (i : Int) < (l.length : Int) := by omega
      clear hJp hrn hil2 htr
      gi_wp2
      go_end0
      refine ⟨⟨_, rfl⟩, pre, ?_, HQ.out.1⟩
      rw [HQ.out.2.1, HQ.out.2.2, List.drop_length]
      simp [runsF]
end Go.Proofs.YtaokegobilphnaaGreatDoor
/- log.runs over changes (printed by tools/lgrn.py) -/
namespace Go.Proofs.YtaokegobilphnaaGreatDoor
open Go Go.RowKit Go.Shelf Go.Proofs Sp Lg
attribute [local go_sem] Oper.semAt_some
set_option linter.unusedVariables false
set_option linter.unusedSimpArgs false

theorem gRunsC_any (A : Option Addr) (n c : Nat) (w : World) :
    Calls Tryz.prog 92 #[.slice A n c] w fun e w' => e = .returned (.func (.func 134) #[] #[.pointer (some ⟨w.heap.size, 0, none⟩)]) ∧ w' = w.alloc (.cells #[.slice A n c] 151) := by
  have hmf : ∀ (fn : Fn) (first cap : Array Value) (w : World), (Instr.makeFunc fn first cap).run Tryz.prog w = .ok (.func fn first cap) w := fun _ _ _ _ => rfl
  go_enter Tryz.func92, Tryz.ntmps92
  go_wp2_with fail
  go_ret
  exact ⟨rfl, rfl⟩
set_option maxRecDepth 100000 in
set_option maxHeartbeats 4000000 in
theorem runsC_seq (tb : Nat) (A : Option Addr) (c : Nat) (l : List Chg) (w : World) (ht : w.heap[tb]? = some (.cells #[.slice A l.length c] 151 (0, 0))) (hl : l.length ≤ 1000000) (N n : Nat) (hN : l.length ≤ N) (hn : 1 ≤ n) :
    SeqT2 Fence.wide n Tryz.prog 134 #[.pointer (some ⟨tb, 0, none⟩)] (fun p : Rn l.length => #[.int .i64 p.1.1, .int .i64 p.1.2]) tb (fun w => Rd w 9 A l.length (chgs l)) (fun xs => rnB xs = runsP l) N w := by
  intro lp J W hW htb hJ hKK hY h0
  have htW := htb.trans ht
  have HY := Lib.hid (And.intro hJ (And.intro hY (And.intro h0 (And.intro htW (And.intro hN hKK)))))
  clear hJ hY h0 htW htb ht hW hN hKK
  refine callsIn_of_wp Tryz.func134 rfl trivial ?_ rfl
  simp only [Tryz.ntmps134, List.size_toArray, List.length_cons, List.length_nil, Nat.reduceAdd, Nat.reduceSub, Array.replicate_succ, Array.replicate_zero, List.push_toArray, List.append_toArray, List.nil_append, List.cons_append]
  gi_wp2
  gi_loopw [3] (fun e wr => ∃ (pre : List (Rn l.length)) (i : Nat), J pre wr ∧ wr.heap[tb]? = some (.cells #[.slice A l.length c] 151 (0, 0)) ∧ e = .int .i64 i ∧ i ≤ l.length ∧ pre.length ≤ i ∧ runsP l = rnB pre ++ runsF (l.drop i).length (l.drop i) i) (fun e wr => l.length - (intOf e).toNat)
  case atStart => exact ⟨[], 0, HY.out.2.2.1, HY.out.2.2.2.1, rfl, Nat.zero_le _, Nat.le_refl _, rfl⟩
  case round =>
    obtain ⟨pre, i, hJp, htr, rfl, hil, hpi, hrn⟩ := hrel
    have t0 := (cell_of_heap htr 0).trans rfl
    have zt := heap_lt htr
    by_cases h0 : i < l.length
    · have hrd := HY.out.2.2.2.2.2 _ _ hJp
      obtain ⟨b, off, rfl, hb, hcc⟩ := hrd.2 (by omega)
      obtain ⟨x, hx⟩ : ∃ x, x = l[i] := ⟨_, rfl⟩
      obtain ⟨s0, s1, s2, s3, s4, s5, s6, s7, s8⟩ := chgs_get (l := l) (k := i) h0
      rw [← hx] at s0 s1 s2 s3 s4 s5 s6 s7 s8
      have c0 : wr.cell? ⟨b, off + i * 9, none⟩ = some (.bool x.is) := hcc _ _ s0
      have c1 : wr.cell? ⟨b, off + i * 9 + 1, none⟩ = some (.int .i64 x.cel.a0) := by rw [Nat.add_assoc]; exact hcc _ _ s1
      have c2 : wr.cell? ⟨b, off + i * 9 + 2, none⟩ = some (.int .i64 x.cel.a1) := by rw [Nat.add_assoc]; exact hcc _ _ s2
      have c3 : wr.cell? ⟨b, off + i * 9 + 3, none⟩ = some (.int .i64 x.cel.b0) := by rw [Nat.add_assoc]; exact hcc _ _ s3
      have c4 : wr.cell? ⟨b, off + i * 9 + 4, none⟩ = some (.int .i64 x.cel.b1) := by rw [Nat.add_assoc]; exact hcc _ _ s4
      have c5 : wr.cell? ⟨b, off + i * 9 + 5, none⟩ = some (.int .i64 x.cel.c0) := by rw [Nat.add_assoc]; exact hcc _ _ s5
      have c6 : wr.cell? ⟨b, off + i * 9 + 6, none⟩ = some (.int .i64 x.cel.c1) := by rw [Nat.add_assoc]; exact hcc _ _ s6
      have c7 : wr.cell? ⟨b, off + i * 9 + 7, none⟩ = some (.int .i64 x.cel.d0) := by rw [Nat.add_assoc]; exact hcc _ _ s7
      have c8 : wr.cell? ⟨b, off + i * 9 + 8, none⟩ = some (.int .i64 x.cel.d1) := by rw [Nat.add_assoc]; exact hcc _ _ s8
      have hrc := runsF_cons h0
      rw [← hx] at hrc
      obtain ⟨q, hq⟩ : ∃ q, q = eqLen x (l.drop (i + 1)) := ⟨_, rfl⟩
      rw [← hq] at hrc
      have hq1 : i + 1 + q ≤ l.length := by rw [hq]; have := eqLen_le x (l.drop (i + 1)); rw [List.length_drop] at this; omega
      have HR := Lib.hid (And.intro hJp (And.intro htr (And.intro hrn (And.intro hrc (And.intro hcc (And.intro hq (And.intro hq1 (And.intro hx (And.intro hpi hrd)))))))))
      clear hJp htr hrn hrc hcc hq hq1 s0 s1 s2 s3 s4 s5 s6 s7 s8 hx hpi hrd
      gi_wp2
      gi_loopw [4] (fun e wx => ∃ m k : Nat, e = .int .i64 m ∧ 1 ≤ m ∧ m ≤ q + 1 ∧ wx = wr.drewN k) (fun e wx => l.length + 1 - (intOf e).toNat)
      case atStart => exact ⟨1, 0, rfl, by omega, by omega, rfl⟩
      case round =>
        obtain ⟨m, kk, rfl, hm1, hm2, rfl⟩ := hrel
        obtain ⟨wx, hwx⟩ : ∃ u, u = wr.drewN kk := ⟨_, rfl⟩
        have t1 : wx.cell? ⟨tb, 0, none⟩ = some (.slice (some ⟨b, off, none⟩) l.length c) := by rw [hwx]; exact t0
        have zx : tb < wx.heap.size := by rw [hwx]; exact zt
        have zb : b < wx.heap.size := by rw [hwx]; exact hb
        have e0 : wx.cell? ⟨b, off + i * 9, none⟩ = some (.bool x.is) := by rw [hwx]; exact c0
        have e1 : wx.cell? ⟨b, off + i * 9 + 1, none⟩ = some (.int .i64 x.cel.a0) := by rw [hwx]; exact c1
        have e2 : wx.cell? ⟨b, off + i * 9 + 2, none⟩ = some (.int .i64 x.cel.a1) := by rw [hwx]; exact c2
        have e3 : wx.cell? ⟨b, off + i * 9 + 3, none⟩ = some (.int .i64 x.cel.b0) := by rw [hwx]; exact c3
        have e4 : wx.cell? ⟨b, off + i * 9 + 4, none⟩ = some (.int .i64 x.cel.b1) := by rw [hwx]; exact c4
        have e5 : wx.cell? ⟨b, off + i * 9 + 5, none⟩ = some (.int .i64 x.cel.c0) := by rw [hwx]; exact c5
        have e6 : wx.cell? ⟨b, off + i * 9 + 6, none⟩ = some (.int .i64 x.cel.c1) := by rw [hwx]; exact c6
        have e7 : wx.cell? ⟨b, off + i * 9 + 7, none⟩ = some (.int .i64 x.cel.d0) := by rw [hwx]; exact c7
        have e8 : wx.cell? ⟨b, off + i * 9 + 8, none⟩ = some (.int .i64 x.cel.d1) := by rw [hwx]; exact c8
        rw [← hwx]
        have hst := eqLen_step x (l.drop (i + 1)) (m - 1) (by have := HR.out.2.2.2.2.2.1; omega)
        rw [← HR.out.2.2.2.2.2.1] at hst
        have hdl : (l.drop (i + 1)).length = l.length - (i + 1) := List.length_drop ..
        have hb6 : i ≤ 1000000 := by omega
        have hb7 : m ≤ 1000001 := by have := HR.out.2.2.2.2.2.2.1; omega
        obtain ⟨j, hj⟩ : ∃ j, j = i + m := ⟨_, rfl⟩
        have hij : (i : Int) + (m : Int) = (j : Int) := by omega
        have hwj : IntKind.i64.wrap (j : Int) = (j : Int) := IntWalk.i64_in _ (by omega)
        have hi0 : (0 : Int) ≤ (i : Int) ∧ (i : Int) < (l.length : Int) := by omega
        by_cases hjl : j < l.length
        · have hcc : ∀ j u, (chgs l)[j]? = some u → wx.cell? ⟨b, off + j, none⟩ = some u := by rw [hwx]; exact HR.out.2.2.2.2.1
          obtain ⟨y, hyl⟩ : ∃ y, y = l[j] := ⟨_, rfl⟩
          obtain ⟨t0, t1, t2, t3, t4, t5, t6, t7, t8⟩ := chgs_get (l := l) (k := j) hjl
          rw [← hyl] at t0 t1 t2 t3 t4 t5 t6 t7 t8
          have d0 : wx.cell? ⟨b, off + j * 9, none⟩ = some (.bool y.is) := hcc _ _ t0
          have d1 : wx.cell? ⟨b, off + j * 9 + 1, none⟩ = some (.int .i64 y.cel.a0) := by rw [Nat.add_assoc]; exact hcc _ _ t1
          have d2 : wx.cell? ⟨b, off + j * 9 + 2, none⟩ = some (.int .i64 y.cel.a1) := by rw [Nat.add_assoc]; exact hcc _ _ t2
          have d3 : wx.cell? ⟨b, off + j * 9 + 3, none⟩ = some (.int .i64 y.cel.b0) := by rw [Nat.add_assoc]; exact hcc _ _ t3
          have d4 : wx.cell? ⟨b, off + j * 9 + 4, none⟩ = some (.int .i64 y.cel.b1) := by rw [Nat.add_assoc]; exact hcc _ _ t4
          have d5 : wx.cell? ⟨b, off + j * 9 + 5, none⟩ = some (.int .i64 y.cel.c0) := by rw [Nat.add_assoc]; exact hcc _ _ t5
          have d6 : wx.cell? ⟨b, off + j * 9 + 6, none⟩ = some (.int .i64 y.cel.c1) := by rw [Nat.add_assoc]; exact hcc _ _ t6
          have d7 : wx.cell? ⟨b, off + j * 9 + 7, none⟩ = some (.int .i64 y.cel.d0) := by rw [Nat.add_assoc]; exact hcc _ _ t7
          have d8 : wx.cell? ⟨b, off + j * 9 + 8, none⟩ = some (.int .i64 y.cel.d1) := by rw [Nat.add_assoc]; exact hcc _ _ t8
          have hlj : decide ((j : Int) < (l.length : Int)) = true := decide_eq_true (by omega)
          have hlj2 : decide (j < l.length) = true := decide_eq_true hjl
          have hj0 : (0 : Int) ≤ (j : Int) ∧ (j : Int) < (l.length : Int) := by omega
          have hyx : y = x ↔ m - 1 < q := by
            have := hst.1 (by omega)
            rw [hyl]
            rw [← this, List.getElem_drop]
            have e : i + 1 + (m - 1) = j := by omega
            simp only [e]
          clear t0 t1 t2 t3 t4 t5 t6 t7 t8 hcc hyl hst hj hdl
          by_cases hyx2 : y = x
          · have hE : ∀ w, (binOp .eql 153 (.agg (chgA y)) (.agg (chgA x))).run Tryz.prog w = .ok (.bool true) w := fun w => by rw [chg_eq]; simp [hyx2]
            have HX := Lib.hid (And.intro (hyx.1 hyx2) hwx)
            clear hyx hyx2 hwx
            gi_upto_region 3 with fail
            gi_quiet (fail)
            gi_wp2
            go_roundw
            case rel => exact ⟨m + 1, kk + nq, by go_num, by omega, by have := HX.out.1; omega, by rw [HX.out.2, World.drewN_drewN]⟩
            case measure => simp [intOf]; omega
          · have hE : ∀ w, (binOp .eql 153 (.agg (chgA y)) (.agg (chgA x))).run Tryz.prog w = .ok (.bool false) w := fun w => by rw [chg_eq]; simp [hyx2]
            have hmq : m = q + 1 := by have : ¬ m - 1 < q := fun h => hyx2 (hyx.2 h); omega
            clear hyx hyx2
            have HMQ := Lib.hid (And.intro hmq hwx)
            clear hmq hwx
            gi_upto_region 3 with fail
            gi_quiet (fail)
            obtain ⟨hmq, hwx⟩ := HMQ.out
            obtain ⟨wy, hwy⟩ : ∃ u, u = wx.drewN nq := ⟨_, rfl⟩
            rw [← hwy]
            have hJy : J pre wy := by rw [hwy, hwx]; exact HY.out.1 _ _ _ HR.out.1 (((Keep.refl _ _).drewN _).drewN _)
            have hty : wy.heap[tb]? = some (.cells #[.slice (some ⟨b, off, none⟩) l.length c] 151 (0, 0)) := by rw [hwy, hwx]; exact HR.out.2.1
            have hpr : i + m ≤ l.length ∧ 1 ≤ m := by have := HR.out.2.2.2.2.2.2.1; omega
            obtain ⟨fn, tmps, assign, body, hy, hR⟩ := HY.out.2.1 pre ⟨(i, m), hpr⟩ wy hJy (by have := HR.out.2.2.2.2.2.2.2.2.1; have := HY.out.2.2.2.2.1; omega)
            dsimp only at hy
            have HQ := Lib.hid (And.intro hR (And.intro hty hmq))
            clear hR hty hJy hwy hwx hmq
            gi_wp2
            refine HQ.out.1.mono ?_
            rintro e W3 ⟨rfl, hJ3, hs3, ht3⟩
            have ht3' := ht3.trans HQ.out.2.1
            have H3 := Lib.hid (And.intro hJ3 ht3')
            have z3 := heap_lt ht3'
            have u3 := (cell_of_heap ht3' 0).trans rfl
            clear hJ3 hs3 ht3 ht3' hy
            gi_wp2
            go_roundw
            case rel =>
              refine ⟨_, i + m, H3.out.1, H3.out.2, by go_num, by have := HR.out.2.2.2.2.2.2.1; have := HQ.out.2.2; omega, ?_, ?_⟩
              · rw [List.length_append]; have := HR.out.2.2.2.2.2.2.2.2.1; simp; omega
              · have e1 := HR.out.2.2.1
                rw [HR.out.2.2.2.1, ← HQ.out.2.2] at e1
                rw [e1]
                simp [rnB]
            case measure =>
              simp [intOf]
              omega
        · have hlj : decide ((j : Int) < (l.length : Int)) = false := decide_eq_false (by omega)
          have hlj2 : decide (j < l.length) = false := decide_eq_false hjl
          have hmq : m = q + 1 := by have := hst.2 (by omega); omega
          clear hst hj hdl
          have HMQ := Lib.hid (And.intro hmq hwx)
          clear hmq hwx
          gi_upto_region 3 with fail
          gi_quiet (fail)
          obtain ⟨hmq, hwx⟩ := HMQ.out
          obtain ⟨wy, hwy⟩ : ∃ u, u = wx.drewN nq := ⟨_, rfl⟩
          rw [← hwy]
          have hJy : J pre wy := by rw [hwy, hwx]; exact HY.out.1 _ _ _ HR.out.1 (((Keep.refl _ _).drewN _).drewN _)
          have hty : wy.heap[tb]? = some (.cells #[.slice (some ⟨b, off, none⟩) l.length c] 151 (0, 0)) := by rw [hwy, hwx]; exact HR.out.2.1
          have hpr : i + m ≤ l.length ∧ 1 ≤ m := by have := HR.out.2.2.2.2.2.2.1; omega
          obtain ⟨fn, tmps, assign, body, hy, hR⟩ := HY.out.2.1 pre ⟨(i, m), hpr⟩ wy hJy (by have := HR.out.2.2.2.2.2.2.2.2.1; have := HY.out.2.2.2.2.1; omega)
          dsimp only at hy
          have HQ := Lib.hid (And.intro hR (And.intro hty hmq))
          clear hR hty hJy hwy hwx hmq
          gi_wp2
          refine HQ.out.1.mono ?_
          rintro e W3 ⟨rfl, hJ3, hs3, ht3⟩
          have ht3' := ht3.trans HQ.out.2.1
          have H3 := Lib.hid (And.intro hJ3 ht3')
          have z3 := heap_lt ht3'
          have u3 := (cell_of_heap ht3' 0).trans rfl
          clear hJ3 hs3 ht3 ht3' hy
          gi_wp2
          go_roundw
          case rel =>
            refine ⟨_, i + m, H3.out.1, H3.out.2, by go_num, by have := HR.out.2.2.2.2.2.2.1; have := HQ.out.2.2; omega, ?_, ?_⟩
            · rw [List.length_append]; have := HR.out.2.2.2.2.2.2.2.2.1; simp; omega
            · have e1 := HR.out.2.2.1
              rw [HR.out.2.2.2.1, ← HQ.out.2.2] at e1
              rw [e1]
              simp [rnB]
          case measure =>
            simp [intOf]
            omega
    · have hil2 : i = l.length := by omega
      have HQ := Lib.hid (And.intro hJp (And.intro hrn hil2))
      have h0' : ¬ (i : Int) < (l.length : Int) := by omega
      clear hJp hrn hil2 htr
      gi_wp2
      go_end0
      refine ⟨⟨_, rfl⟩, pre, ?_, HQ.out.1⟩
      rw [HQ.out.2.1, HQ.out.2.2, List.drop_length]
      simp [runsF]
end Go.Proofs.YtaokegobilphnaaGreatDoor
/- a builder behind book-keeping; log.fields; append of a whole slice inside a fence -/
namespace Go.Proofs.YtaokegobilphnaaGreatDoor
open Go Go.RowKit Go.Shelf Go.Proofs Sp Lg
set_option linter.unusedVariables false
set_option linter.unusedSimpArgs false

theorem builder_simZ {T e : TypeId} {B b D : Nat} {p : Value} {l : List Value} {A C : World} (h : Lib.BuilderAtF T e B b p l A) (hs : SimZ D A C) : Lib.BuilderAtF T e B b p l C := by
  obtain ⟨hB, v, hv, hown, hne⟩ := h
  refine ⟨hB, v, hs.same _ _ hv (fun _ => rfl), ⟨hown.1, hown.2.imp id ?_⟩, hne⟩
  rintro ⟨g, cap, cur, fz, e1, e2, e3, e4⟩
  exact ⟨g, cap, cur, fz, e1, e2, hs.same _ _ e3 (fun _ => rfl), e4⟩
theorem Bld.simZ {w0 A C : World} {b D : Nat} {l : By} (h : Bld w0 b l A) (hs : SimZ D A C) (hD : w0.heap.size ≤ D) : Bld w0 b l C :=
  ⟨h.1.elim (fun x => .inl (builder_simZ x hs)) (fun x => .inr (builder_simZ x hs)), hs.bel h.2 hD h.2.size⟩
theorem Bld.lt {w0 A : World} {b : Nat} {l : By} (h : Bld w0 b l A) : b < A.heap.size := h.1.elim (fun x => x.lt) (fun x => x.lt)
theorem Bld.cells {w0 A : World} {b : Nat} {l : By} (h : Bld w0 b l A) : ∃ c, A.heap[b]? = some (.cells c 112 (0, 0)) :=
  h.1.elim (fun ⟨_, _, h, _⟩ => ⟨_, h⟩) (fun ⟨_, _, h, _⟩ => ⟨_, h⟩)
theorem wString2 {w0 : World} {b : Nat} {l : By} {w : World} (h : Bld w0 b l w) (m : By) (hl : l.length ≤ 100000000) (hm : m.length ≤ 100000000) :
    Calls Tryz.prog 64 #[.pointer (some ⟨b, 0, none⟩), .string (bs m)] w fun e w' => e = .returned (.tuple #[.int .i64 m.length, .nilIface]) ∧ Bld w0 b (l ++ m) w' ∧ Lib.OthersKept 5 (some b) w w' ∧ w.heap.size ≤ w'.heap.size := by
  refine (Tryz.Builder_WriteString_k w0.heap.size b (Lib.byteCells l) (bs m) w h.1 (by rw [Lib.byteCells_length, bs_size]; omega) h.2.size).mono ?_
  rintro e w' ⟨rfl, h1, h2, h3⟩
  exact ⟨by rw [bs_size], ⟨.inr (by rw [← byteCells_app]; exact h1), h.2.trans h2⟩, h3, h2.size⟩
theorem bString2 {w0 : World} {b : Nat} {l : By} {w : World} (h : Bld w0 b l w) :
    Calls Tryz.prog 68 #[.pointer (some ⟨b, 0, none⟩)] w fun e w' => e = .returned (.string (bs l)) ∧ Bld w0 b l w' ∧ Lib.OthersKept 5 (some b) w w' := by
  refine (Tryz.Builder_String_any_k w0.heap.size b l w h.1 h.2.size).mono ?_
  rintro e w' ⟨rfl, h1, h2, h3⟩
  exact ⟨rfl, ⟨h1, h.2.trans h2⟩, h3⟩
theorem keepsOthers_others {w0 A W C : World} {b : Nat} {l : By} (hb : Bld w0 b l A) (h1 : Below A.heap.size A W) (h : Lib.OthersKept 5 (some b) W C) (hs : W.heap.size ≤ C.heap.size) : KeepsOthers A C :=
  ⟨Nat.le_trans h1.size hs, fun k o hk ho => by
    have hlt := (Array.getElem?_eq_some_iff.1 hk).1
    refine h k o ((h1.block k hlt).trans hk) (fun e => ?_) (fun c fz e => ?_)
    · obtain ⟨c, hc⟩ := hb.cells
      injection e with e
      subst e
      rw [hk] at hc; cases hc; cases ho
    · subst e; cases ho⟩
theorem others_block {A W C : World} {b k : Nat} {c : Array Value} {T : TypeId} {fz : Nat × Nat} (hk : A.heap[k]? = some (.cells c T fz)) (hT : T ≠ 5) (hb : k ≠ b) (h1 : Below A.heap.size A W) (h : Lib.OthersKept 5 (some b) W C) : C.heap[k]? = some (.cells c T fz) :=
  h k _ ((h1.block k (Array.getElem?_eq_some_iff.1 hk).1).trans hk) (by simpa using hb) (fun c' fz' e => by cases e; exact hT rfl)
theorem wpListIn_append_M {F : Fence} {nn : Nat} {w : World} {e : TypeId} {size : Nat} {A B : Option Addr} {n c m d : Nat} {xs ys : List Value} {fp : List Nat} {P : Program} {ops : Array Oper} {rest : List Oper} {o : Oper} {a : Act} {Q : Exit → Act → World → Prop} (hgd : o.guard = none) (s x : Operand) (t : TypeId)
    (ho : o.op = .call { callee := .builtin .append, args := #[s, x], argTypes := #[t, t] })
    (i : TypeInfo) (z : Value) (bytes : Nat) (ht : P.underlying t = some (.slice e)) (hi : P.info? e = some i) (hz : i.zero = some z)
    (hsize : i.size = size) (hby : i.bytes = bytes) (hzs : z.cells.size = size) (hs : a.eval s = .slice A n c) (hx : a.eval x = .slice B m d)
    (hown : OwnS w e size A n c xs fp) (hr : Rd w size B m ys) (h1 : ∀ u ∈ ys, u.oneCell' = true)
    (hn : n + m ≤ 1000000000000) (hbytes : bytes ≤ 100)
    (h : ∀ A' c' w' fp', OwnS w' e size A' (n + m) c' (xs ++ ys) fp' → (∀ g ∈ fp', g ∈ fp ∨ w.heap.size = g) → Keep fp w w' → wpListIn F nn P ops Q rest (a.put o.dst (.slice A' (n + m) c')) w') : wpListIn F nn P ops Q (o :: rest) a w := by
  refine wpListIn_plain hgd fun K hK => ?_
  obtain ⟨A', c', w', fp', hrn, h2, h3, h4⟩ := run_append_M (P := P) (d := d) t o.type i z bytes ht hi hz hsize hby hzs hown hr h1 hn hbytes
  unfold Oper.wpIn
  refine ⟨?_, ?_⟩
  · simp [Oper.about, ho, resolve, Target.leads, Sem.run_pure]
  · rw [Oper.semAt_plain F _ _ (by rw [ho]; intro c hc; cases hc)]
    simp [execOp, ho, resolve, invoke, builtin, hs, hx, hrn, Result.andThen]
    exact hK _ _ (h A' c' w' fp' h2 h3 h4)
/-- the fields of a cell -/
def celI (x : Cel) : List Int := [x.a0, x.a1, x.b0, x.b1, x.c0, x.c1, x.d0, x.d1]
set_option maxRecDepth 100000 in
set_option maxHeartbeats 4000000 in
theorem gFields_any (x : Cel) (w : World) :
    Calls Tryz.prog 89 #[.agg (celA x)] w fun e w' => ∃ g, e = .returned (.slice (some ⟨g, 0, none⟩) 8 8) ∧ w'.heap[g]? = some (.cells (celA x) 3 (0, 0)) ∧ Below w.heap.size w w' := by
  obtain ⟨a0, a1, b0, b1, c0, c1, d0, d1⟩ := x
  obtain ⟨W1, hW1⟩ : ∃ W, W = w.alloc (.cells #[.int .i64 a0, .int .i64 a1, .int .i64 b0, .int .i64 b1, .int .i64 c0, .int .i64 c1, .int .i64 d0, .int .i64 d1] 73) := ⟨_, rfl⟩
  obtain ⟨xb, hxb⟩ : ∃ b, b = w.heap.size := ⟨_, rfl⟩
  have hb : W1.heap[xb]? = some (.cells #[.int .i64 a0, .int .i64 a1, .int .i64 b0, .int .i64 b1, .int .i64 c0, .int .i64 c1, .int .i64 d0, .int .i64 d1] 73 (0, 0)) := by rw [hW1, hxb]; exact heap_alloc_new _ _
  have B1 : Below w.heap.size w W1 := by rw [hW1]; exact (Below.refl _ _).alloc (Nat.le_refl _) _
  have x0 := (cell_of_heap hb 0).trans rfl
  have x1 := (cell_of_heap hb 1).trans rfl
  have x2 := (cell_of_heap hb 2).trans rfl
  have x3 := (cell_of_heap hb 3).trans rfl
  have x4 := (cell_of_heap hb 4).trans rfl
  have x5 := (cell_of_heap hb 5).trans rfl
  have x6 := (cell_of_heap hb 6).trans rfl
  have x7 := (cell_of_heap hb 7).trans rfl
  have zb := heap_lt hb
  have H := Lib.hid B1
  clear B1 hb
  go_enter Tryz.func89, Tryz.ntmps89
  go_upto_region 1 with fail
  rw [← hW1, ← hxb]
  clear hW1 hxb
  go_wp2_with fail
  go_ret
  exact ⟨_, rfl, heap_alloc_new _ _, H.out.trans (((Below.refl _ _).alloc (Nat.le_refl _) _).mono H.out.size)⟩
end Go.Proofs.YtaokegobilphnaaGreatDoor
