/- As XRegionG, in a fence that is open: for what a range function's iterator does. -/
import Derived.Test.YtalcinepeofmcaaDoorRSp9
import Derived.OrdersIn
import Derived.TacticsIn
import Derived.Test.YtalcinepeofmcaaDoorRSp12
import Derived.RangeFuncNested
import Derived.RangeFuncBound
import Derived.RangeFuncCalls
import Derived.RangeFuncLeaves
import Derived.Shelf.Abstract
import Derived.Shelf.RegionOpen
import Derived.OwnWalkIn
import Derived.TacticsInMore
import Derived.LoopNIn
import Derived.LoopIn
import Derived.Sort.CutIn
set_option linter.unusedVariables false
set_option linter.unusedSimpArgs false
namespace Go.Proofs.YtalcinepeofmcaaDoor
open Go
set_option linter.unusedVariables false

def IStep {σ : Type} (nn : Nat) (P : Program) (ops : List Oper) (Q : Exit → Act → World → Prop) (φ : σ → Nat → Value → World → Prop) (W : σ → (Nat → Bool) → World → Prop) (i : Nat) (o : Oper) (s : σ) (l : Nat → Bool) (a : Act) (w : World) : Prop :=
  if Region.wanted o (yielded ops.toArray a.tmps) = true then o.wpIn Fence.wide nn P a w (fun a' w' => ∃ s' v, a' = a.put o.dst v ∧ W s' (upd l i) w' ∧ (o.dst.isSome = true → φ s' i v w') ∧ (∀ j u, l j = true → φ s j u w → φ s' j u w')) Q
  else ∃ s' v, a.put o.dst undef = a.put o.dst v ∧ W s' (upd l i) w ∧ (o.dst.isSome = true → φ s' i v w) ∧ (∀ j u, l j = true → φ s j u w → φ s' j u w)

theorem wpIn_region_invI {σ : Type} {nn : Nat} {P : Program} {ops : List Oper} {Q : Exit → Act → World → Prop} {id : Nat} {a0 : Act} {w0 : World} (hm : P.follows .mixedOrders = true)
    (hok : regionOkG ops a0.tmps.size = true)
    (φ : σ → Nat → Value → World → Prop) (W : σ → (Nat → Bool) → World → Prop) (s0 : σ) (h0 : W s0 (fun _ => false) w0.drew)
    (hstep : ∀ i o, ops[i]? = some o → ∀ s l a w, l i = false → (∀ e ∈ o.after.toList, Region.binds .any e = true → l e.on = true) → W s l w → FrOk ops a0 (φ s) l a w →
      IStep nn P ops Q φ W i o s l a w)
    (hfin : ∀ s a w, W s (fun j => decide (j < ops.length)) w → FrOk ops a0 (φ s) (fun j => decide (j < ops.length)) a w → Q .normal a w) :
    (Code.region id ops.toArray true).wpIn Fence.wide nn P Q a0 w0 := by
  simp only [regionOkG, Bool.and_eq_true, decide_eq_true_eq] at hok
  obtain ⟨⟨hnd, hltB⟩, hgB⟩ := hok
  have hlt : ∀ (o : Oper) (d : Nat), o ∈ ops → o.dst = some d → d < a0.tmps.size := fun o d ho hd => by
    have := List.all_eq_true.1 hltB d (List.mem_filterMap.2 ⟨o, ho, hd⟩)
    simpa using this
  have hg : ∀ i o, ops[i]? = some o → True ∧ ∀ e ∈ o.after.toList, Region.binds .any e = true → e.on < i := fun i o ho => by
    have := List.all_eq_true.1 hgB (o, i) (List.mem_zipIdx_iff_getElem?.2 ho)
    simp only at this
    refine ⟨trivial, fun e he hb => ?_⟩
    have h2 := List.all_eq_true.1 this e he
    simpa [hb] using h2
  have hsz : ops.toArray.size = ops.length := by simp
  -- all have been carried out where none may come up
  have hall : ∀ listed : Array Bool, listed.size = ops.length → Region.ready .any ops.toArray listed = [] → ∀ n, ∀ j, j < n → j < ops.length → listed.getD j false = true := by
    intro listed hls hr n
    induction n with
    | zero => intro j hj; omega
    | succ n ih =>
      intro j hj hjl
      by_cases hjn : j < n
      · exact ih j hjn hjl
      · obtain rfl : j = n := by omega
        cases hl : listed.getD j false with
        | true => rfl
        | false =>
          exfalso
          have hl' : listed.getD j true = false ∨ listed.size ≤ j := by
            rcases Nat.lt_or_ge j listed.size with h | h
            · left; simp [h] at hl ⊢; exact hl
            · exact .inr h
          have ho : ops[j]? = some ops[j] := List.getElem?_eq_getElem hjl
          rcases hl' with hl' | hl'
          · have : j ∈ Region.ready .any ops.toArray listed := mem_ready.2 ⟨hl', ops[j], by simp [hjl], fun e he hb => ih e.on ((hg j _ ho).2 e (by simpa using he) hb) (by have := (hg j _ ho).2 e (by simpa using he) hb; omega)⟩
            rw [hr] at this
            cases this
          · omega
  have main : ∀ fuel (listed : Array Bool) (a : Act) (w : World) (s : σ), listed.size = ops.length → cntFalse (fun j => listed.getD j false) ops.length ≤ fuel → W s (fun j => listed.getD j false) w → FrOk ops a0 (φ s) (fun j => listed.getD j false) a w →
      wpAnyIn Fence.wide nn P .any ops.toArray Q fuel listed a w := by
    intro fuel
    have hend : ∀ (listed : Array Bool) (a : Act) (w : World) (s : σ), listed.size = ops.length → (∀ j, j < ops.length → listed.getD j false = true) → W s (fun j => listed.getD j false) w → FrOk ops a0 (φ s) (fun j => listed.getD j false) a w → Q .normal a w := by
      intro listed a w s hs hl hW hF
      have he : (fun j => listed.getD j false) = fun j => decide (j < ops.length) := by
        funext j
        by_cases hj : j < ops.length
        · rw [hl j hj]; simp [hj]
        · simp [hj, hs]
      rw [he] at hW hF
      exact hfin s a w hW hF
    induction fuel with
    | zero =>
      intro listed a w s hs hc hW hF
      have hl := cntFalse_zero ops.length (Nat.le_zero.1 hc)
      refine ⟨?_, hend listed a w s hs hl hW hF⟩
      apply List.eq_nil_iff_forall_not_mem.2
      intro i hi
      obtain ⟨h1, o, ho, _⟩ := mem_ready.1 hi
      have hil : i < ops.length := by simpa using (Array.getElem?_eq_some_iff.1 ho).1
      have h2 := hl i hil
      have : i < listed.size := by omega
      simp [this] at h1 h2
      rw [h2] at h1
      cases h1
    | succ fuel ih =>
      intro listed a w s hs hc hW hF
      refine ⟨fun hr => hend listed a w s hs (fun j hj => hall listed hs hr (j + 1) j (by omega) hj) hW hF, fun i hi => ?_⟩
      obtain ⟨h1, o, ho, hdep⟩ := mem_ready.1 hi
      have hil : i < ops.length := by simpa using (Array.getElem?_eq_some_iff.1 ho).1
      have ho' : ops[i]? = some o := by rw [← ho]; simp
      have hli : i < listed.size := by omega
      have hl0 : listed.getD i false = false := by simp [hli] at h1 ⊢; exact h1
      have hst := hstep i o ho' s (fun j => listed.getD j false) a w hl0 (fun e he hb => hdep e (by simpa using he) hb) hW hF
      unfold wpOpIn
      rw [ho]
      have key : ∀ a' w', (∃ s' v, a' = a.put o.dst v ∧ W s' (upd (fun j => listed.getD j false) i) w' ∧ (o.dst.isSome = true → φ s' i v w') ∧ (∀ j u, (fun j => listed.getD j false) j = true → φ s j u w → φ s' j u w')) → wpAnyIn Fence.wide nn P .any ops.toArray Q fuel (listed.setIfInBounds i true) a' w' := ?_
      · unfold IStep at hst
        simp only
        by_cases hw : Region.wanted o (yielded ops.toArray a.tmps) = true
        · rw [if_pos hw] at hst ⊢
          exact Oper.wpIn_mono key hst
        · rw [if_neg hw] at hst ⊢
          exact ⟨fun _ _ => trivial, key _ _ hst⟩
      rintro a' w' ⟨s', v, rfl, hW', hφ, hstab⟩
      have hupd : (fun j => (listed.setIfInBounds i true).getD j false) = upd (fun j => listed.getD j false) i := by
        funext j
        simp only [upd]
        split
        · rename_i hj; subst hj; simp [hli]
        · rename_i hj; rw [getD_set_ne false (Ne.symm hj)]
      have hcl : ∀ j o', upd (fun j => listed.getD j false) i j = true → ops[j]? = some o' → ∀ e ∈ o'.after.toList, Region.binds .any e = true → upd (fun j => listed.getD j false) i e.on = true := by
        intro j o' hj ho'' e he hb
        have hold : (listed.getD e.on false) = true → upd (fun j => listed.getD j false) i e.on = true := fun h => by simp only [upd]; split <;> first | rfl | exact h
        by_cases hji : j = i
        · subst hji
          rw [ho'] at ho''
          injection ho'' with e1
          subst e1
          exact hold (hdep e (by simpa using he) hb)
        · have hj' : listed.getD j false = true := by simpa [upd, hji] using hj
          exact hold (hF.closed j o' hj' ho'' e he hb)
      have hF' : FrOk ops a0 (φ s') (upd (fun j => listed.getD j false) i) (a.put o.dst v) w' := by
        cases hd : o.dst with
        | none =>
          refine ⟨hF.defers, hF.size, fun t ht => hF.other t (fun j o' hj hd' => by have := ht j o' hj hd'; simp only [upd] at this; split at this <;> first | exact this | cases this), fun j o' d hj ho'' hd' => ?_, hcl⟩
          have hji : j ≠ i := by
            rintro rfl
            rw [ho'] at ho''
            injection ho'' with e
            rw [← e, hd] at hd'
            cases hd'
          have hj' : listed.getD j false = true := by simpa [upd, hji] using hj
          obtain ⟨u, hu, hp⟩ := hF.vals j o' d hj' ho'' hd'
          exact ⟨u, hu, hstab j u hj' hp⟩
        | some d0 =>
          refine ⟨hF.defers, by simp [Act.put, hF.size], fun t ht => ?_, fun j o' d hj ho'' hd' => ?_, hcl⟩
          · have : d0 ≠ t := fun e => by
              have := ht i o ho' (by rw [hd, e])
              simp [upd] at this
            simp only [Act.put]
            rw [Array.getElem?_setIfInBounds_ne this]
            exact hF.other t (fun j o' hj hd' => by have := ht j o' hj hd'; simp only [upd] at this; split at this <;> first | exact this | cases this)
          · by_cases hji : j = i
            · subst hji
              rw [ho'] at ho''
              injection ho'' with e
              subst e
              rw [hd] at hd'
              injection hd' with e
              subst e
              have hlt' : d0 < a.tmps.size := by rw [hF.size]; exact hlt o d0 (List.mem_of_getElem? ho') hd
              exact ⟨v, by simp [Act.put, hlt'], hφ (by rw [hd]; rfl)⟩
            · have hj' : listed.getD j false = true := by simpa [upd, hji] using hj
              obtain ⟨u, hu, hp⟩ := hF.vals j o' d hj' ho'' hd'
              have hne : d0 ≠ d := by
                rintro rfl
                exact hji (nodup_dst hnd ho'' ho' hd' hd)
              refine ⟨u, ?_, hstab j u hj' hp⟩
              simp only [Act.put]
              rw [Array.getElem?_setIfInBounds_ne hne]
              exact hu
      refine ih _ _ _ s' (by simp [hs]) ?_ (by rw [hupd]; exact hW') (by rw [hupd]; exact hF')
      rw [hupd]
      have := cntFalse_upd (f := fun j => listed.getD j false) hl0 ops.length hil
      omega
  refine wpIn_region_any hm ?_
  rw [hsz]
  have hf : (fun j => (Array.replicate ops.length false).getD j false) = fun _ => false := by
    funext j
    rcases Nat.lt_or_ge j ops.length with h | h <;> simp [h]
  refine main ops.length _ a0 w0.drew s0 (by simp) (cntFalse_le _ _) (by rw [hf]; exact h0) ?_
  exact ⟨rfl, rfl, fun _ _ => rfl, fun j o d hj => (by rw [congrFun hf j] at hj; cases hj), fun j o hj => (by rw [congrFun hf j] at hj; cases hj)⟩

def StepOkI {σ : Type} (nn : Nat) (P : Program) (ops : List Oper) (Q : Exit → Act → World → Prop) (a0 : Act) (φ : σ → Nat → Value → World → Prop) (W : σ → (Nat → Bool) → World → Prop) (i : Nat) (o : Oper) : Prop :=
  ∀ s l a w, l i = false → (∀ e ∈ o.after.toList, Region.binds .any e = true → l e.on = true) → W s l w → FrOk ops a0 (φ s) l a w → IStep nn P ops Q φ W i o s l a w
theorem wpIn_region_stepsI {σ : Type} {nn : Nat} {P : Program} {ops : List Oper} {Q : Exit → Act → World → Prop} {id : Nat} {a0 : Act} {w0 : World} (hm : P.follows .mixedOrders = true)
    (hok : regionOkG ops a0.tmps.size = true)
    (φ : σ → Nat → Value → World → Prop) (W : σ → (Nat → Bool) → World → Prop) (s0 : σ) (h0 : W s0 (fun _ => false) w0.drew)
    (hstep : AllFrom (StepOkI nn P ops Q a0 φ W) 0 ops)
    (hfin : ∀ s a w, W s (fun j => decide (j < ops.length)) w → FrOk ops a0 (φ s) (fun j => decide (j < ops.length)) a w → Q .normal a w) :
    (Code.region id ops.toArray true).wpIn Fence.wide nn P Q a0 w0 :=
  wpIn_region_invI hm hok φ W s0 h0 (fun i o ho => by have := allFrom_get hstep i o ho; rwa [Nat.zero_add] at this) hfin

/-- what one operation owes where it is carried out -/
def StepIn {σ : Type} (nn : Nat) (P : Program) (ops : List Oper) (Q : Exit → Act → World → Prop) (a0 : Act) (φ : σ → Nat → Value → World → Prop) (W : σ → (Nat → Bool) → World → Prop) (i : Nat) (o : Oper) : Prop :=
  ∀ s l a w, l i = false → (∀ e ∈ o.after.toList, Region.binds .any e = true → l e.on = true) → W s l w → FrOk ops a0 (φ s) l a w →
      o.wpIn Fence.wide nn P a w (fun a' w' => ∃ s' v, a' = a.put o.dst v ∧ W s' (upd l i) w' ∧ (o.dst.isSome = true → φ s' i v w') ∧ (∀ j u, l j = true → φ s j u w → φ s' j u w')) Q
section
variable {σ : Type} {nn : Nat} {P : Program} {ops : List Oper} {Q : Exit → Act → World → Prop} {a0 : Act} {φ : σ → Nat → Value → World → Prop} {W : σ → (Nat → Bool) → World → Prop} {i : Nat} {o : Oper}
theorem stepI_plain (hg : o.guard = none) (h : StepIn nn P ops Q a0 φ W i o) : StepOkI nn P ops Q a0 φ W i o := by
  intro s l a w hl hd hW hF
  unfold IStep
  rw [if_pos (by simp [Region.wanted, hg])]
  exact h s l a w hl hd hW hF
theorem stepI_yes (h : StepIn nn P ops Q a0 φ W i o) (hw : ∀ (s : σ) (l : Nat → Bool) (a : Act) (w : World), (∀ e ∈ o.after.toList, Region.binds .any e = true → l e.on = true) → FrOk ops a0 (φ s) l a w → Region.wanted o (yielded ops.toArray a.tmps) = true) : StepOkI nn P ops Q a0 φ W i o := by
  intro s l a w hl hd hW hF
  unfold IStep
  rw [if_pos (hw s l a w hd hF)]
  exact h s l a w hl hd hW hF
theorem stepI_no (h : ∀ (s : σ) (l : Nat → Bool) (a : Act) (w : World), l i = false → W s l w → W s (upd l i) w ∧ φ s i undef w) (hw : ∀ (s : σ) (l : Nat → Bool) (a : Act) (w : World), (∀ e ∈ o.after.toList, Region.binds .any e = true → l e.on = true) → FrOk ops a0 (φ s) l a w → Region.wanted o (yielded ops.toArray a.tmps) = false) : StepOkI nn P ops Q a0 φ W i o := by
  intro s l a w hl hd hW hF
  unfold IStep
  rw [if_neg (by rw [hw s l a w hd hF]; decide)]
  obtain ⟨h1, h2⟩ := h s l a w hl hW
  exact ⟨s, undef, rfl, h1, fun _ => h2, fun _ _ _ h => h⟩
theorem stepin_pure (h : ∀ s l a w, l i = false → (∀ e ∈ o.after.toList, Region.binds .any e = true → l e.on = true) → W s l w → FrOk ops a0 (φ s) l a w →
      W s (upd l i) w ∧ ∃ v, (execOp a.eval o).run P w = .ok (.value v) w ∧ φ s i v w) : StepIn nn P ops Q a0 φ W i o := by
  intro s l a w hl hd hW hF
  obtain ⟨hW', v, hr, hp⟩ := h s l a w hl hd hW hF
  refine ⟨fun _ _ => trivial, ?_⟩
  show o.uponIn Fence.wide nn P a _ Q ((execOp a.eval o).run P w)
  rw [hr]
  exact ⟨s, v, rfl, hW', fun _ => hp, fun _ _ _ h => h⟩
theorem stepin_call (h : ∀ s l a w, l i = false → (∀ e ∈ o.after.toList, Region.binds .any e = true → l e.on = true) → W s l w → FrOk ops a0 (φ s) l a w →
      ∃ f args, (execOp a.eval o).run P w = .ok (.enter f args) w ∧ Calls P f args w fun e w' => ∃ v s', e = .returned v ∧ W s' (upd l i) w' ∧ φ s' i v w' ∧ (∀ j u, l j = true → φ s j u w → φ s' j u w')) : StepIn nn P ops Q a0 φ W i o := by
  intro s l a w hl hd hW hF
  obtain ⟨f, args, hr, hc⟩ := h s l a w hl hd hW hF
  refine ⟨fun _ _ => trivial, ?_⟩
  show o.uponIn Fence.wide nn P a _ Q ((execOp a.eval o).run P w)
  rw [hr, Oper.uponIn_enter]
  refine ⟨(fun h => by cases h), (callsIn_wide.2 hc).mono ?_⟩
  rintro e w' ⟨v, s', rfl, hW', hp, hst⟩
  exact ⟨s', v, rfl, hW', fun _ => hp, hst⟩
theorem stepin_round (h : ∀ s l a w, l i = false → (∀ e ∈ o.after.toList, Region.binds .any e = true → l e.on = true) → W s l w → FrOk ops a0 (φ s) l a w →
      ∃ k f tmps assign body, (execOp a.eval o).run P w = .ok (.round k f tmps assign body) w ∧ RoundIn Fence.wide (nn - 1) P k f tmps assign body w fun e w' => ∃ v s', e = .returned v ∧ W s' (upd l i) w' ∧ φ s' i v w' ∧ (∀ j u, l j = true → φ s j u w → φ s' j u w')) : StepIn nn P ops Q a0 φ W i o := by
  intro s l a w hl hd hW hF
  obtain ⟨k, f, tmps, assign, body, hr, hc⟩ := h s l a w hl hd hW hF
  refine ⟨fun _ _ => trivial, ?_⟩
  show o.uponIn Fence.wide nn P a _ Q ((execOp a.eval o).run P w)
  rw [hr, Oper.uponIn_round]
  refine ⟨(fun h => by cases h), hc.mono ?_⟩
  rintro e w' ⟨v, s', rfl, hW', hp, hst⟩
  exact ⟨s', v, rfl, hW', fun _ => hp, hst⟩
end
end Go.Proofs.YtalcinepeofmcaaDoor
/- hull: first, last, ends; polynyalaw03: Level, Just (printed by wip/tools/hull7.py) -/
namespace Go.Proofs.YtalcinepeofmcaaDoor
open Go Go.RowKit Go.Shelf Go.Proofs Sp Hu
attribute [local go_sem] Oper.semAt_some
set_option linter.unusedVariables false
set_option linter.unusedSimpArgs false

/-- the cell of one ice -/
def justC (i : Ic) : Cel := ⟨i.con, i.con, i.thk, i.thk, i.rid, i.rid, i.prs, i.prs⟩
abbrev justV (i : Ic) : Array Value := #[.int .i64 i.con, .int .i64 i.con, .int .i64 i.thk, .int .i64 i.thk, .int .i64 i.rid, .int .i64 i.rid, .int .i64 i.prs, .int .i64 i.prs]
theorem celE_just {i : Ic} (h : IcOk i) : celE (justC i) = 0 := by
  obtain ⟨h1, h2, h3, h4⟩ := h
  unfold celE celOk justC spanOk
  simp [within]
  omega
theorem ice_results {F : Func} {r : Nat} (hF : F.results = #[.cell r 45]) {W : World} {b : Nat} {i : Ic} (h : W.heap[b]? = some (.cells (icV i) 45 (0, 0))) (tmps : Array Value) (hr : tmps.getD r undef = .pointer (some ⟨b, 0, none⟩)) :
    (results F tmps).run Tryd.prog W = .ok (.agg (icV i)) W := by
  have g8 : tmps[r]?.getD undef = .pointer (some ⟨b, 0, none⟩) := by simpa using hr
  have c0 : W.cell? ⟨b, 0, none⟩ = some (.int .i64 i.con) := (cell_of_heap h 0).trans rfl
  have c1 : W.cell? ⟨b, 1, none⟩ = some (.int .i64 i.thk) := (cell_of_heap h 1).trans rfl
  have c2 : W.cell? ⟨b, 2, none⟩ = some (.int .i64 i.rid) := (cell_of_heap h 2).trans rfl
  have c3 : W.cell? ⟨b, 3, none⟩ = some (.int .i64 i.prs) := (cell_of_heap h 3).trans rfl
  simp [results, hF, g8, asAddr, go_sem, c0, c1, c2, c3]
theorem cel_results {F : Func} {r : Nat} (hF : F.results = #[.cell r 30]) {W : World} {b : Nat} {i : Ic} (h : W.heap[b]? = some (.cells (justV i) 30 (0, 0))) (tmps : Array Value) (hr : tmps.getD r undef = .pointer (some ⟨b, 0, none⟩)) :
    (results F tmps).run Tryd.prog W = .ok (.agg (justV i)) W := by
  have g8 : tmps[r]?.getD undef = .pointer (some ⟨b, 0, none⟩) := by simpa using hr
  have c0 : W.cell? ⟨b, 0, none⟩ = some (.int .i64 i.con) := (cell_of_heap h 0).trans rfl
  have c1 : W.cell? ⟨b, 1, none⟩ = some (.int .i64 i.con) := (cell_of_heap h 1).trans rfl
  have c2 : W.cell? ⟨b, 2, none⟩ = some (.int .i64 i.thk) := (cell_of_heap h 2).trans rfl
  have c3 : W.cell? ⟨b, 3, none⟩ = some (.int .i64 i.thk) := (cell_of_heap h 3).trans rfl
  have c4 : W.cell? ⟨b, 4, none⟩ = some (.int .i64 i.rid) := (cell_of_heap h 4).trans rfl
  have c5 : W.cell? ⟨b, 5, none⟩ = some (.int .i64 i.rid) := (cell_of_heap h 5).trans rfl
  have c6 : W.cell? ⟨b, 6, none⟩ = some (.int .i64 i.prs) := (cell_of_heap h 6).trans rfl
  have c7 : W.cell? ⟨b, 7, none⟩ = some (.int .i64 i.prs) := (cell_of_heap h 7).trans rfl
  simp [results, hF, g8, asAddr, go_sem, c0, c1, c2, c3, c4, c5, c6, c7]

theorem st4_heap {W : World} {vb : Nat} {u0 u1 u2 u3 : Value} {t : TypeId} (h : W.heap[vb]? = some (.cells #[u0, u1, u2, u3] t (0, 0))) (x y z v : Value) : ((((W.setCell ⟨vb, 0, none⟩ x).setCell ⟨vb, 1, none⟩ y).setCell ⟨vb, 2, none⟩ z).setCell ⟨vb, 3, none⟩ v).heap[vb]? = some (.cells #[x, y, z, v] t (0, 0)) :=
  heap_set (heap_set (heap_set (heap_set h 0 x) 1 y) 2 z) 3 v

set_option maxRecDepth 100000 in
theorem hufirst_any (i : Ic) (w : World) : Calls Tryd.prog 53 #[.agg (justV i)] w fun e w' => e = .returned (.agg (icV i)) ∧ Below w.heap.size w w' := by
  obtain ⟨W, hW⟩ : ∃ W, W = (w.alloc (.cells (justV i) 30)).alloc (.cells #[.int .i64 0, .int .i64 0, .int .i64 0, .int .i64 0] 45) := ⟨_, rfl⟩
  obtain ⟨cb, hcb⟩ : ∃ b, b = w.heap.size := ⟨_, rfl⟩
  obtain ⟨rb, hrb⟩ : ∃ b, b = w.heap.size + 1 := ⟨_, rfl⟩
  have O : Own w.heap.size w [.blk cb (.cells (justV i) 30), .blk rb (.cells #[.int .i64 0, .int .i64 0, .int .i64 0, .int .i64 0] 45)] W := by
    have h := ((Own.start w).alloc (.cells (justV i) 30)).alloc (.cells #[.int .i64 0, .int .i64 0, .int .i64 0, .int .i64 0] 45)
    rw [hW, hcb, hrb]; simpa using h
  have hh := O.heap 0 rfl
  have hr := O.heap 1 rfl
  have s0 : W.cell? ⟨cb, 0, none⟩ = some _ := (cell_of_heap hh 0).trans rfl
  have s1 : W.cell? ⟨cb, 1, none⟩ = some _ := (cell_of_heap hh 1).trans rfl
  have s2 : W.cell? ⟨cb, 2, none⟩ = some _ := (cell_of_heap hh 2).trans rfl
  have s3 : W.cell? ⟨cb, 3, none⟩ = some _ := (cell_of_heap hh 3).trans rfl
  have s4 : W.cell? ⟨cb, 4, none⟩ = some _ := (cell_of_heap hh 4).trans rfl
  have s5 : W.cell? ⟨cb, 5, none⟩ = some _ := (cell_of_heap hh 5).trans rfl
  have s6 : W.cell? ⟨cb, 6, none⟩ = some _ := (cell_of_heap hh 6).trans rfl
  have s7 : W.cell? ⟨cb, 7, none⟩ = some _ := (cell_of_heap hh 7).trans rfl
  have zs := heap_lt hh
  have zr := heap_lt hr
  have r0 := (cell_of_heap hr 0).trans rfl
  have f0 := frozen_of_heap hr 0
  have r1 := (cell_of_heap hr 1).trans rfl
  have f1 := frozen_of_heap hr 1
  have r2 := (cell_of_heap hr 2).trans rfl
  have f2 := frozen_of_heap hr 2
  have r3 := (cell_of_heap hr 3).trans rfl
  have f3 := frozen_of_heap hr 3
  have hge : w.heap.size ≤ rb := by omega
  have HO := Lib.hid (And.intro O hr)
  clear O hh hr
  go_enter Tryd.func53, Tryd.ntmps53
  go_upto_region 1 with fail
  rw [← hW, ← hrb, ← hcb]
  clear hW hrb hcb
  go_wp2_with fail
  exact bodyPost_ret (ice_results rfl (i := i) (st4_heap HO.out.2 _ _ _ _) _ rfl) rfl ⟨rfl, (((HO.out.1.bel.setCell hge _).setCell hge _).setCell hge _).setCell hge _⟩

set_option maxRecDepth 100000 in
theorem hulast_any (i : Ic) (w : World) : Calls Tryd.prog 54 #[.agg (justV i)] w fun e w' => e = .returned (.agg (icV i)) ∧ Below w.heap.size w w' := by
  obtain ⟨W, hW⟩ : ∃ W, W = (w.alloc (.cells (justV i) 30)).alloc (.cells #[.int .i64 0, .int .i64 0, .int .i64 0, .int .i64 0] 45) := ⟨_, rfl⟩
  obtain ⟨cb, hcb⟩ : ∃ b, b = w.heap.size := ⟨_, rfl⟩
  obtain ⟨rb, hrb⟩ : ∃ b, b = w.heap.size + 1 := ⟨_, rfl⟩
  have O : Own w.heap.size w [.blk cb (.cells (justV i) 30), .blk rb (.cells #[.int .i64 0, .int .i64 0, .int .i64 0, .int .i64 0] 45)] W := by
    have h := ((Own.start w).alloc (.cells (justV i) 30)).alloc (.cells #[.int .i64 0, .int .i64 0, .int .i64 0, .int .i64 0] 45)
    rw [hW, hcb, hrb]; simpa using h
  have hh := O.heap 0 rfl
  have hr := O.heap 1 rfl
  have s0 : W.cell? ⟨cb, 0, none⟩ = some _ := (cell_of_heap hh 0).trans rfl
  have s1 : W.cell? ⟨cb, 1, none⟩ = some _ := (cell_of_heap hh 1).trans rfl
  have s2 : W.cell? ⟨cb, 2, none⟩ = some _ := (cell_of_heap hh 2).trans rfl
  have s3 : W.cell? ⟨cb, 3, none⟩ = some _ := (cell_of_heap hh 3).trans rfl
  have s4 : W.cell? ⟨cb, 4, none⟩ = some _ := (cell_of_heap hh 4).trans rfl
  have s5 : W.cell? ⟨cb, 5, none⟩ = some _ := (cell_of_heap hh 5).trans rfl
  have s6 : W.cell? ⟨cb, 6, none⟩ = some _ := (cell_of_heap hh 6).trans rfl
  have s7 : W.cell? ⟨cb, 7, none⟩ = some _ := (cell_of_heap hh 7).trans rfl
  have zs := heap_lt hh
  have zr := heap_lt hr
  have r0 := (cell_of_heap hr 0).trans rfl
  have f0 := frozen_of_heap hr 0
  have r1 := (cell_of_heap hr 1).trans rfl
  have f1 := frozen_of_heap hr 1
  have r2 := (cell_of_heap hr 2).trans rfl
  have f2 := frozen_of_heap hr 2
  have r3 := (cell_of_heap hr 3).trans rfl
  have f3 := frozen_of_heap hr 3
  have hge : w.heap.size ≤ rb := by omega
  have HO := Lib.hid (And.intro O hr)
  clear O hh hr
  go_enter Tryd.func54, Tryd.ntmps54
  go_upto_region 1 with fail
  rw [← hW, ← hrb, ← hcb]
  clear hW hrb hcb
  go_wp2_with fail
  exact bodyPost_ret (ice_results rfl (i := i) (st4_heap HO.out.2 _ _ _ _) _ rfl) rfl ⟨rfl, (((HO.out.1.bel.setCell hge _).setCell hge _).setCell hge _).setCell hge _⟩

theorem st8_heap {W : World} {vb : Nat} {u0 u1 u2 u3 u4 u5 u6 u7 : Value} {t : TypeId} (h : W.heap[vb]? = some (.cells #[u0, u1, u2, u3, u4, u5, u6, u7] t (0, 0))) (x y z v a b c d : Value) : ((((((((W.setCell ⟨vb, 0, none⟩ x).setCell ⟨vb, 1, none⟩ y).setCell ⟨vb, 2, none⟩ z).setCell ⟨vb, 3, none⟩ v).setCell ⟨vb, 4, none⟩ a).setCell ⟨vb, 5, none⟩ b).setCell ⟨vb, 6, none⟩ c).setCell ⟨vb, 7, none⟩ d).heap[vb]? = some (.cells #[x, y, z, v, a, b, c, d] t (0, 0)) := by
  have h1 := heap_set h 0 x
  have h2 := heap_set h1 1 y
  have h3 := heap_set h2 2 z
  have h4 := heap_set h3 3 v
  have h5 := heap_set h4 4 a
  have h6 := heap_set h5 5 b
  have h7 := heap_set h6 6 c
  have h8 := heap_set h7 7 d
  rw [h8]
  simp
set_option maxRecDepth 100000 in
theorem just3_any (i : Ic) (w : World) : Calls Tryd.prog 9 #[.agg (icV i)] w fun e w' => e = .returned (.agg (justV i)) ∧ Below w.heap.size w w' := by
  obtain ⟨W, hW⟩ : ∃ W, W = (w.alloc (.cells (icV i) 45)).alloc (.cells #[.int .i64 0, .int .i64 0, .int .i64 0, .int .i64 0, .int .i64 0, .int .i64 0, .int .i64 0, .int .i64 0] 30) := ⟨_, rfl⟩
  obtain ⟨cb, hcb⟩ : ∃ b, b = w.heap.size := ⟨_, rfl⟩
  obtain ⟨rb, hrb⟩ : ∃ b, b = w.heap.size + 1 := ⟨_, rfl⟩
  have O : Own w.heap.size w [.blk cb (.cells (icV i) 45), .blk rb (.cells #[.int .i64 0, .int .i64 0, .int .i64 0, .int .i64 0, .int .i64 0, .int .i64 0, .int .i64 0, .int .i64 0] 30)] W := by
    have h := ((Own.start w).alloc (.cells (icV i) 45)).alloc (.cells #[.int .i64 0, .int .i64 0, .int .i64 0, .int .i64 0, .int .i64 0, .int .i64 0, .int .i64 0, .int .i64 0] 30)
    rw [hW, hcb, hrb]; simpa using h
  have hh := O.heap 0 rfl
  have hr := O.heap 1 rfl
  have s0 : W.cell? ⟨cb, 0, none⟩ = some _ := (cell_of_heap hh 0).trans rfl
  have s1 : W.cell? ⟨cb, 1, none⟩ = some _ := (cell_of_heap hh 1).trans rfl
  have s2 : W.cell? ⟨cb, 2, none⟩ = some _ := (cell_of_heap hh 2).trans rfl
  have s3 : W.cell? ⟨cb, 3, none⟩ = some _ := (cell_of_heap hh 3).trans rfl
  have zs := heap_lt hh
  have zr := heap_lt hr
  have r0 := (cell_of_heap hr 0).trans rfl
  have f0 := frozen_of_heap hr 0
  have r1 := (cell_of_heap hr 1).trans rfl
  have f1 := frozen_of_heap hr 1
  have r2 := (cell_of_heap hr 2).trans rfl
  have f2 := frozen_of_heap hr 2
  have r3 := (cell_of_heap hr 3).trans rfl
  have f3 := frozen_of_heap hr 3
  have r4 := (cell_of_heap hr 4).trans rfl
  have f4 := frozen_of_heap hr 4
  have r5 := (cell_of_heap hr 5).trans rfl
  have f5 := frozen_of_heap hr 5
  have r6 := (cell_of_heap hr 6).trans rfl
  have f6 := frozen_of_heap hr 6
  have r7 := (cell_of_heap hr 7).trans rfl
  have f7 := frozen_of_heap hr 7
  have hge : w.heap.size ≤ rb := by omega
  have HO := Lib.hid (And.intro O hr)
  clear O hh hr
  go_enter Tryd.func9, Tryd.ntmps9
  go_upto_region 1 with fail
  rw [← hW, ← hrb, ← hcb]
  clear hW hrb hcb
  go_wp2_with fail
  exact bodyPost_ret (cel_results rfl (i := i) (st8_heap HO.out.2 _ _ _ _ _ _ _ _) _ rfl) rfl ⟨rfl, (((((((HO.out.1.bel.setCell hge _).setCell hge _).setCell hge _).setCell hge _).setCell hge _).setCell hge _).setCell hge _).setCell hge _⟩

end Go.Proofs.YtalcinepeofmcaaDoor
/- hull: ends, of a cell of one ice (printed by wip/tools/hull8.py) -/
namespace Go.Proofs.YtalcinepeofmcaaDoor
open Go Go.RowKit Go.Shelf Go.Proofs Sp Hu
attribute [local go_sem] Oper.semAt_some
set_option linter.unusedVariables false
set_option linter.unusedSimpArgs false

/-- what a round keeps: whatever cells are not free -/
structure KpH (free : Nat → Obj → Prop) (W W' : World) : Prop where
  size : W.heap.size ≤ W'.heap.size
  same : ∀ (k : Nat) (o : Obj), W.heap[k]? = some o → o.isCells = true → ¬ free k o → W'.heap[k]? = some o
theorem KpH.trans {free : Nat → Obj → Prop} {A B C : World} (h : KpH free A B) (h' : KpH free B C) : KpH free A C :=
  ⟨Nat.le_trans h.size h'.size, fun k o hk hc hf => h'.same k o (h.same k o hk hc hf) hc hf⟩
theorem KpH.alloc {free : Nat → Obj → Prop} (W : World) (o : Obj) : KpH free W (W.alloc o) := ⟨by simp, fun _ _ hk _ _ => heap_alloc' hk _⟩
theorem KpH.putObj {free : Nat → Obj → Prop} {W : World} {l : Nat} {o : Obj} (hl : W.heap[l]? = some o) (ho : o.isCells = false) (o' : Obj) : KpH free W (W.putObj l o') :=
  ⟨by simp, fun k ob hk hc _ => (World.putObj_heap_other (fun e => by subst e; rw [hl] at hk; cases hk; rw [ho] at hc; cases hc)).trans hk⟩
theorem KpH.of_below {free : Nat → Obj → Prop} {W W' : World} (h : Below W.heap.size W W') : KpH free W W' := ⟨h.size, fun k o hk _ _ => (h.block k (heap_lt hk)).trans hk⟩
theorem grownH_of_below {w w' : World} (h : Below w.heap.size w w') : w.grownBy w' none := ⟨h.os, h.tape, h.output, h.size, fun k hk _ => h.block k hk⟩
theorem ownH_cells {β : Type} (b : Nat) (f : β → Obj) (hf : ∀ s, (f s).isCells = true) : Go.Own (fun s W => W.heap[b]? = some (f s)) := fun s X Y row hs hg hrow =>
  (hg.block b (heap_lt hs) (fun e => by obtain ⟨o, ho, hc⟩ := hrow b e.symm; rw [hs] at ho; cases ho; rw [hf] at hc; cases hc)).trans hs

theorem ice_neq (i : Ic) (w : World) : (binOp .neq 45 (.agg (icV i)) (.agg (icV i))).run Tryd.prog w = .ok (.bool false) w := by
  have u3 := Tryd.underlying3
  have a3 := Tryd.isAgg3
  have z3 := Tryd.sizeOf3
  have hS : Tryd.prog.underlying 45 = some (.struct (Tryd.prog.fieldsOf 45)) := by kernel_rfl
  have hp : Tryd.prog.stoodInHeld 45 = false := by kernel_rfl
  rw [run_neq_struct, show (10000 : Nat) = 9999 + 1 from rfl, run_equalIn_agg w 9999 45 _ _ hS hp]
  simp only [Program.fieldsOf, Tryd.underlying45]
  go_simp

theorem huends_any (i : Ic) (w : World) : Calls Tryd.prog 26 #[.agg (justV i)] w fun e w' => ∃ xb, e = .returned (.func (.func 52) #[] #[.pointer (some ⟨xb, 0, none⟩)]) ∧ w.heap.size ≤ xb ∧ w'.heap[xb]? = some (.cells (justV i) 30 (0, 0)) ∧ Below w.heap.size w w' := by
  have bX : Below w.heap.size w (w.alloc (.cells (justV i) 30)) := (Below.refl _ _).alloc (Nat.le_refl _) _
  have hX := heap_alloc_new w (.cells (justV i) 30)
  have H := Lib.hid (And.intro hX bX)
  clear hX bX
  go_enter Tryd.func26, Tryd.ntmps26
  go_wp2_with fail
  go_ret
  exact ⟨_, rfl, Nat.le_refl _, H.out⟩

section
variable {σ : Type} {nn : Nat} {P : Program} {ops : List Oper} {Q : Exit → Act → World → Prop} {a0 : Act} {φ : σ → Nat → Value → World → Prop} {W : σ → (Nat → Bool) → World → Prop} {i : Nat} {o : Oper}
theorem at_pure {s : σ} {l : Nat → Bool} {a : Act} {w : World} (h : W s (upd l i) w ∧ ∃ v, (execOp a.eval o).run P w = .ok (.value v) w ∧ φ s i v w) :
    o.wpIn Fence.wide nn P a w (fun a' w' => ∃ s' v, a' = a.put o.dst v ∧ W s' (upd l i) w' ∧ (o.dst.isSome = true → φ s' i v w') ∧ (∀ j u, l j = true → φ s j u w → φ s' j u w')) Q := by
  obtain ⟨hW', v, hr, hp⟩ := h
  refine ⟨fun _ _ => trivial, ?_⟩
  show o.uponIn Fence.wide nn P a _ Q ((execOp a.eval o).run P w)
  rw [hr]
  exact ⟨s, v, rfl, hW', fun _ => hp, fun _ _ _ h => h⟩
theorem at_call {s : σ} {l : Nat → Bool} {a : Act} {w : World} (h : ∃ f args, (execOp a.eval o).run P w = .ok (.enter f args) w ∧ Calls P f args w fun e w' => ∃ v s', e = .returned v ∧ W s' (upd l i) w' ∧ φ s' i v w' ∧ (∀ j u, l j = true → φ s j u w → φ s' j u w')) :
    o.wpIn Fence.wide nn P a w (fun a' w' => ∃ s' v, a' = a.put o.dst v ∧ W s' (upd l i) w' ∧ (o.dst.isSome = true → φ s' i v w') ∧ (∀ j u, l j = true → φ s j u w → φ s' j u w')) Q := by
  obtain ⟨f, args, hr, hc⟩ := h
  refine ⟨fun _ _ => trivial, ?_⟩
  show o.uponIn Fence.wide nn P a _ Q ((execOp a.eval o).run P w)
  rw [hr, Oper.uponIn_enter]
  refine ⟨(fun h => by cases h), (callsIn_wide.2 hc).mono ?_⟩
  rintro e w' ⟨v, s', rfl, hW', hp, hst⟩
  exact ⟨s', v, rfl, hW', fun _ => hp, hst⟩
/-- an operation whose guard is told by the state -/
theorem stepI_if (z : σ → Bool) (hw : ∀ (s : σ) (l : Nat → Bool) (a : Act) (w : World), (∀ e ∈ o.after.toList, Region.binds .any e = true → l e.on = true) → FrOk ops a0 (φ s) l a w → Region.wanted o (yielded ops.toArray a.tmps) = z s)
    (h : ∀ s l a w, z s = true → l i = false → (∀ e ∈ o.after.toList, Region.binds .any e = true → l e.on = true) → W s l w → FrOk ops a0 (φ s) l a w →
      o.wpIn Fence.wide nn P a w (fun a' w' => ∃ s' v, a' = a.put o.dst v ∧ W s' (upd l i) w' ∧ (o.dst.isSome = true → φ s' i v w') ∧ (∀ j u, l j = true → φ s j u w → φ s' j u w')) Q)
    (hn : ∀ s l w, z s = false → l i = false → W s l w → W s (upd l i) w ∧ φ s i undef w) : StepOkI nn P ops Q a0 φ W i o := by
  intro s l a w hl hd hW hF
  unfold IStep
  cases hz : z s
  · rw [if_neg (by rw [hw s l a w hd hF, hz]; decide)]
    obtain ⟨h1, h2⟩ := hn s l w hz hl hW
    exact ⟨s, undef, rfl, h1, fun _ => h2, fun _ _ _ h => h⟩
  · rw [if_pos (by rw [hw s l a w hd hF, hz])]
    exact h s l a w hz hl hd hW hF
end

def EnV (l0 : Nat) (i : Ic) (s : Bool) : Nat → Value → Prop
  | 0, v => v = .func (.yield l0) #[] #[]
  | 1, v => v = .agg (justV i)
  | 2, v => v = .agg (icV i)
  | 3, v => v = .bool s
  | 4, v => v = .bool s
  | 5, v => s = true → v = .agg (justV i)
  | 6, v => s = true → v = .agg (icV i)
  | 7, v => s = true → v = .agg (justV i)
  | 8, v => s = true → v = .agg (icV i)
  | 9, v => s = true → v = .bool false
  | 10, v => v = .bool false
  | _, _ => True
def EnW (i : Ic) (xb : Nat) (J0 J1 Jx : World → Prop) (s : Bool) (l : Nat → Bool) (w : World) : Prop :=
  if l 3 then (s = true ∧ J1 w ∧ w.heap[xb]? = some (.cells (justV i) 30 (0, 0))) ∨ (s = false ∧ Jx w) else J0 w ∧ w.heap[xb]? = some (.cells (justV i) 30 (0, 0))
abbrev OneI (i : Ic) : Type := { x : Ic // x = i }

set_option maxRecDepth 100000 in
set_option maxHeartbeats 4000000 in
theorem ends1_stops (i : Ic) (xb : Nat) (free : Nat → Obj → Prop) (hfree : ∀ cs fr, ¬ free xb (.cells cs 30 fr)) (w : World) (hx0 : w.heap[xb]? = some (.cells (justV i) 30 (0, 0))) (n : Nat) (hn : 1 ≤ n) :
    SeqStopsK Fence.wide n Tryd.prog 52 #[.pointer (some ⟨xb, 0, none⟩)] (fun x : OneI i => #[.agg (icV x.1)]) (KpH free) (fun xs => xs = [⟨i, rfl⟩]) (fun pre => pre <+: [⟨i, rfl⟩]) 10 w := by
  intro l J Jx W hW hJ hJx hY h0
  have hX : W.heap[xb]? = some (.cells (justV i) 30 (0, 0)) := (hW.block _ (heap_lt hx0)).trans hx0
  have HY := Lib.hid (And.intro hJ (And.intro hJx (And.intro hY (And.intro h0 hX))))
  have st : ∀ (pre : List (OneI i)) (a b : World), J pre a → Below a.heap.size a b → J pre b := fun pre a b hj hb => hJ _ a b none hj (grownH_of_below hb) (fun r e => by cases e)
  have HS := Lib.hid st
  clear hJ hJx hY h0 hX hW hx0 st
  refine callsIn_of_wp Tryd.func52 rfl trivial ?_ rfl
  simp only [Tryd.ntmps52, List.size_toArray, List.length_cons, List.length_nil, Nat.reduceAdd, Nat.reduceSub, Array.replicate_succ, Array.replicate_zero, List.push_toArray, List.append_toArray, List.nil_append, List.cons_append]
  gi_upto_region 0 with fail
  refine wpIn_region_stepsI (σ := Bool) (by kernel_rfl) (by kernel_rfl) (fun sg jx vx _ => EnV l i sg jx vx) (fun sg ly wx => EnW i xb (J []) (J [⟨i, rfl⟩]) (Jx [⟨i, rfl⟩]) sg ly wx) false ?_ ?_ ?_
  · unfold EnW
    rw [if_neg (by simp)]
    exact ⟨HS.out _ _ _ HY.out.2.2.2.1 (Below.refl _ _).drew, HY.out.2.2.2.2⟩
  · simp only [AllFrom, Nat.zero_add, Nat.reduceAdd]
    refine ⟨?_, ?_, ?_, ?_, ?_, ?_, ?_, ?_, ?_, ?_, ?_, trivial⟩
    · refine stepI_plain rfl ?_
      refine stepin_pure fun sg ly a wr hl hd hW hF => ?_
      have et0 := hF.old 0 (by kernel_rfl)
      simp [Act.eval] at et0
      exact ⟨by simpa [EnW, upd] using hW, .func (.yield l) #[] #[], by go_simp, rfl⟩
    · refine stepI_plain rfl ?_
      refine stepin_pure fun sg ly a wr hl hd hW hF => ?_
      have et1 := hF.old 1 (by kernel_rfl)
      simp [Act.eval] at et1
      have n2 := hF.notYet 1 2 hl (by kernel_rfl)
      have n3 := hF.notYet 2 3 n2 (by kernel_rfl)
      have hW' := hW
      unfold EnW at hW'
      rw [if_neg (by simp [n3])] at hW'
      have hx := hW'.2
      have q0 := (cell_of_heap hx 0).trans rfl; have q1 := (cell_of_heap hx 1).trans rfl; have q2 := (cell_of_heap hx 2).trans rfl; have q3 := (cell_of_heap hx 3).trans rfl; have q4 := (cell_of_heap hx 4).trans rfl; have q5 := (cell_of_heap hx 5).trans rfl; have q6 := (cell_of_heap hx 6).trans rfl; have q7 := (cell_of_heap hx 7).trans rfl
      have zx := heap_lt hx
      exact ⟨by simpa [EnW, upd] using hW, .agg (justV i), by go_simp, rfl⟩
    · refine stepI_plain rfl ?_
      refine stepin_call fun sg ly a wr hl hd hW hF => ?_
      simp [Region.binds] at hd
      have et4 := hF.new 1 4 (by simp [hd]) rfl
      simp [EnV, Act.eval] at et4
      have n3 := hF.notYet 2 3 hl (by kernel_rfl)
      have hW' := hW
      unfold EnW at hW'
      rw [if_neg (by simp [n3])] at hW'
      have hx := hW'.2
      refine ⟨53, #[.agg (justV i)], by go_simp, ?_⟩
      refine (hufirst_any i wr).mono ?_
      rintro e w2 ⟨rfl, hb⟩
      refine ⟨_, sg, rfl, ?_, rfl, fun _ _ _ h => h⟩
      unfold EnW
      rw [if_neg (by simp [upd, n3])]
      exact ⟨HS.out _ _ _ hW'.1 hb, (hb.block _ (heap_lt hx)).trans hx⟩
    · refine stepI_plain rfl ?_
      refine stepin_round fun sg ly a wr hl hd hW hF => ?_
      simp [Region.binds] at hd
      have et3 := hF.new 0 3 (by simp [hd]) rfl
      simp [EnV, Act.eval] at et3
      have et5 := hF.new 2 5 (by simp [hd]) rfl
      simp [EnV, Act.eval] at et5
      have hW' := hW
      unfold EnW at hW'
      rw [if_neg (by simp [hl])] at hW'
      have n4 := hF.notYet 3 4 hl (by kernel_rfl)
      have n5 := hF.notYet 4 5 n4 (by kernel_rfl)
      have n6 := hF.notYet 5 6 n5 (by kernel_rfl)
      have n7 := hF.notYet 4 7 n4 (by kernel_rfl)
      have n8 := hF.notYet 7 8 n7 (by kernel_rfl)
      have n9 := hF.notYet 8 9 n8 (by kernel_rfl)
      have n10 := hF.notYet 9 10 n9 (by kernel_rfl)
      obtain ⟨fn, tmps, assign, body, hy, hR⟩ := HY.out.2.2.1 [] ⟨i, rfl⟩ wr hW'.1 (by simp)
      dsimp only at hy
      refine ⟨l, fn, tmps, assign, body, by go_simp, hR.mono ?_⟩
      rintro e W3 (⟨rfl, hJ3, hk3⟩ | ⟨rfl, hJ3⟩)
      · refine ⟨_, true, rfl, by unfold EnW; rw [if_pos (by simp [upd])]; exact .inl ⟨rfl, hJ3, hk3.same _ _ hW'.2 rfl (hfree _ _)⟩, rfl, ?_⟩
        intro j u hi h
        have i3 : j ≠ 3 := by rintro rfl; rw [hl] at hi; cases hi
        have i4 : j ≠ 4 := by rintro rfl; rw [n4] at hi; cases hi
        have i5 : j ≠ 5 := by rintro rfl; rw [n5] at hi; cases hi
        have i6 : j ≠ 6 := by rintro rfl; rw [n6] at hi; cases hi
        have i7 : j ≠ 7 := by rintro rfl; rw [n7] at hi; cases hi
        have i8 : j ≠ 8 := by rintro rfl; rw [n8] at hi; cases hi
        have i9 : j ≠ 9 := by rintro rfl; rw [n9] at hi; cases hi
        have i10 : j ≠ 10 := by rintro rfl; rw [n10] at hi; cases hi
        unfold EnV at h ⊢
        split at h <;> first | exact h | exact absurd rfl i3 | exact absurd rfl i4 | exact absurd rfl i5 | exact absurd rfl i6 | exact absurd rfl i7 | exact absurd rfl i8 | exact absurd rfl i9 | exact absurd rfl i10
      · refine ⟨_, false, rfl, by unfold EnW; rw [if_pos (by simp [upd])]; exact .inr ⟨rfl, hJ3⟩, rfl, ?_⟩
        intro j u hi h
        have i3 : j ≠ 3 := by rintro rfl; rw [hl] at hi; cases hi
        have i4 : j ≠ 4 := by rintro rfl; rw [n4] at hi; cases hi
        have i5 : j ≠ 5 := by rintro rfl; rw [n5] at hi; cases hi
        have i6 : j ≠ 6 := by rintro rfl; rw [n6] at hi; cases hi
        have i7 : j ≠ 7 := by rintro rfl; rw [n7] at hi; cases hi
        have i8 : j ≠ 8 := by rintro rfl; rw [n8] at hi; cases hi
        have i9 : j ≠ 9 := by rintro rfl; rw [n9] at hi; cases hi
        have i10 : j ≠ 10 := by rintro rfl; rw [n10] at hi; cases hi
        unfold EnV at h ⊢
        split at h <;> first | exact h | exact absurd rfl i3 | exact absurd rfl i4 | exact absurd rfl i5 | exact absurd rfl i6 | exact absurd rfl i7 | exact absurd rfl i8 | exact absurd rfl i9 | exact absurd rfl i10
    · refine stepI_plain rfl ?_
      refine stepin_pure fun sg ly a wr hl hd hW hF => ?_
      simp [Region.binds] at hd
      have et6 := hF.new 3 6 (by simp [hd]) rfl
      simp [EnV, Act.eval] at et6
      exact ⟨by simpa [EnW, upd] using hW, .bool sg, by go_simp, rfl⟩
    · refine stepI_if (fun s => s) ?_ ?_ ?_
      · intro sg ly a wr hd hF
        simp [Region.binds] at hd
        exact (wanted_eq hF (g := 4) (d := 7) (z := sg) (b := true) rfl rfl (by simp [hd]) (fun v hv => hv)).trans (by cases sg <;> rfl)
      · intro sg ly a wr hz hl hd hW hF
        simp [Region.binds] at hd
        have et1 := hF.old 1 (by kernel_rfl)
        simp [Act.eval] at et1
        have y3 : ly 3 = true := hF.before 3 4 (by simp [hd]) (by kernel_rfl)
        have hW' := hW
        unfold EnW at hW'
        rw [if_pos y3] at hW'
        obtain ⟨_, hj, hx⟩ := hW'.resolve_right (fun h => by rw [h.1] at hz; cases hz)
        have q0 := (cell_of_heap hx 0).trans rfl; have q1 := (cell_of_heap hx 1).trans rfl; have q2 := (cell_of_heap hx 2).trans rfl; have q3 := (cell_of_heap hx 3).trans rfl; have q4 := (cell_of_heap hx 4).trans rfl; have q5 := (cell_of_heap hx 5).trans rfl; have q6 := (cell_of_heap hx 6).trans rfl; have q7 := (cell_of_heap hx 7).trans rfl
        have zx := heap_lt hx
        refine at_pure (φ := fun sg jx vx _ => EnV l i sg jx vx) (W := fun sg ly wx => EnW i xb (J []) (J [⟨i, rfl⟩]) (Jx [⟨i, rfl⟩]) sg ly wx) (s := sg) (l := ly) (i := 5) ?_
        exact ⟨by simpa [EnW, upd] using hW, .agg (justV i), by go_simp, fun _ => rfl⟩
      · intro sg ly wr hz hl hW
        exact ⟨by simpa [EnW, upd] using hW, by simp [EnV, hz]⟩
    · refine stepI_if (fun s => s) ?_ ?_ ?_
      · intro sg ly a wr hd hF
        simp [Region.binds] at hd
        exact (wanted_eq hF (g := 4) (d := 7) (z := sg) (b := true) rfl rfl (by simp [hd]) (fun v hv => hv)).trans (by cases sg <;> rfl)
      · intro sg ly a wr hz hl hd hW hF
        simp [Region.binds] at hd
        have et8 := hF.new 5 8 (by simp [hd]) rfl
        simp [EnV, Act.eval, hz] at et8
        have y3 : ly 3 = true := hF.before 3 4 (by simp [hd]) (by kernel_rfl)
        have hW' := hW
        unfold EnW at hW'
        rw [if_pos y3] at hW'
        obtain ⟨_, hj, hx⟩ := hW'.resolve_right (fun h => by rw [h.1] at hz; cases hz)
        refine at_call (φ := fun sg jx vx _ => EnV l i sg jx vx) (W := fun sg ly wx => EnW i xb (J []) (J [⟨i, rfl⟩]) (Jx [⟨i, rfl⟩]) sg ly wx) (s := sg) (l := ly) (i := 6) ?_
        refine ⟨53, #[.agg (justV i)], by go_simp, ?_⟩
        refine (hufirst_any i wr).mono ?_
        rintro e w2 ⟨rfl, hb⟩
        refine ⟨_, sg, rfl, ?_, fun _ => rfl, fun _ _ _ h => h⟩
        unfold EnW
        rw [if_pos (by simp [upd, y3])]
        exact .inl ⟨hz, HS.out _ _ _ hj hb, (hb.block _ (heap_lt hx)).trans hx⟩
      · intro sg ly wr hz hl hW
        exact ⟨by simpa [EnW, upd] using hW, by simp [EnV, hz]⟩
    · refine stepI_if (fun s => s) ?_ ?_ ?_
      · intro sg ly a wr hd hF
        simp [Region.binds] at hd
        exact (wanted_eq hF (g := 4) (d := 7) (z := sg) (b := true) rfl rfl (by simp [hd]) (fun v hv => hv)).trans (by cases sg <;> rfl)
      · intro sg ly a wr hz hl hd hW hF
        simp [Region.binds] at hd
        have et1 := hF.old 1 (by kernel_rfl)
        simp [Act.eval] at et1
        have y3 : ly 3 = true := hF.before 3 4 (by simp [hd]) (by kernel_rfl)
        have hW' := hW
        unfold EnW at hW'
        rw [if_pos y3] at hW'
        obtain ⟨_, hj, hx⟩ := hW'.resolve_right (fun h => by rw [h.1] at hz; cases hz)
        have q0 := (cell_of_heap hx 0).trans rfl; have q1 := (cell_of_heap hx 1).trans rfl; have q2 := (cell_of_heap hx 2).trans rfl; have q3 := (cell_of_heap hx 3).trans rfl; have q4 := (cell_of_heap hx 4).trans rfl; have q5 := (cell_of_heap hx 5).trans rfl; have q6 := (cell_of_heap hx 6).trans rfl; have q7 := (cell_of_heap hx 7).trans rfl
        have zx := heap_lt hx
        refine at_pure (φ := fun sg jx vx _ => EnV l i sg jx vx) (W := fun sg ly wx => EnW i xb (J []) (J [⟨i, rfl⟩]) (Jx [⟨i, rfl⟩]) sg ly wx) (s := sg) (l := ly) (i := 7) ?_
        exact ⟨by simpa [EnW, upd] using hW, .agg (justV i), by go_simp, fun _ => rfl⟩
      · intro sg ly wr hz hl hW
        exact ⟨by simpa [EnW, upd] using hW, by simp [EnV, hz]⟩
    · refine stepI_if (fun s => s) ?_ ?_ ?_
      · intro sg ly a wr hd hF
        simp [Region.binds] at hd
        exact (wanted_eq hF (g := 4) (d := 7) (z := sg) (b := true) rfl rfl (by simp [hd]) (fun v hv => hv)).trans (by cases sg <;> rfl)
      · intro sg ly a wr hz hl hd hW hF
        simp [Region.binds] at hd
        have et10 := hF.new 7 10 (by simp [hd]) rfl
        simp [EnV, Act.eval, hz] at et10
        have y3 : ly 3 = true := hF.before 3 4 (by simp [hd]) (by kernel_rfl)
        have hW' := hW
        unfold EnW at hW'
        rw [if_pos y3] at hW'
        obtain ⟨_, hj, hx⟩ := hW'.resolve_right (fun h => by rw [h.1] at hz; cases hz)
        refine at_call (φ := fun sg jx vx _ => EnV l i sg jx vx) (W := fun sg ly wx => EnW i xb (J []) (J [⟨i, rfl⟩]) (Jx [⟨i, rfl⟩]) sg ly wx) (s := sg) (l := ly) (i := 8) ?_
        refine ⟨54, #[.agg (justV i)], by go_simp, ?_⟩
        refine (hulast_any i wr).mono ?_
        rintro e w2 ⟨rfl, hb⟩
        refine ⟨_, sg, rfl, ?_, fun _ => rfl, fun _ _ _ h => h⟩
        unfold EnW
        rw [if_pos (by simp [upd, y3])]
        exact .inl ⟨hz, HS.out _ _ _ hj hb, (hb.block _ (heap_lt hx)).trans hx⟩
      · intro sg ly wr hz hl hW
        exact ⟨by simpa [EnW, upd] using hW, by simp [EnV, hz]⟩
    · refine stepI_if (fun s => s) ?_ ?_ ?_
      · intro sg ly a wr hd hF
        simp [Region.binds] at hd
        exact (wanted_eq hF (g := 4) (d := 7) (z := sg) (b := true) rfl rfl (by simp [hd]) (fun v hv => hv)).trans (by cases sg <;> rfl)
      · intro sg ly a wr hz hl hd hW hF
        simp [Region.binds] at hd
        have et9 := hF.new 6 9 (by simp [hd]) rfl
        simp [EnV, Act.eval, hz] at et9
        have et11 := hF.new 8 11 (by simp [hd]) rfl
        simp [EnV, Act.eval, hz] at et11
        have hq := ice_neq i
        refine at_pure (φ := fun sg jx vx _ => EnV l i sg jx vx) (W := fun sg ly wx => EnW i xb (J []) (J [⟨i, rfl⟩]) (Jx [⟨i, rfl⟩]) sg ly wx) (s := sg) (l := ly) (i := 9) ?_
        exact ⟨by simpa [EnW, upd] using hW, .bool false, by go_simp, fun _ => rfl⟩
      · intro sg ly wr hz hl hW
        exact ⟨by simpa [EnW, upd] using hW, by simp [EnV, hz]⟩
    · refine stepI_plain rfl ?_
      refine stepin_pure fun sg ly a wr hl hd hW hF => ?_
      simp [Region.binds] at hd
      have et7 := hF.new 4 7 (by simp [hd]) rfl
      simp [EnV, Act.eval] at et7
      have et12 := hF.new 9 12 (by simp [hd]) rfl
      simp [EnV, Act.eval] at et12
      refine ⟨by simpa [EnW, upd] using hW, .bool false, ?_, rfl⟩
      cases sg
      · go_simp
      · have et12' := et12 rfl
        go_simp
  intro sg a w5 hWW hF
  have e13 := hF.new 10 13 (by decide) rfl
  obtain ⟨f5, hf5, rfl⟩ := hF.lit
  rw [← hf5] at e13
  simp only [EnV] at e13
  have hw5 : J [⟨i, rfl⟩] w5 ∨ Jx [⟨i, rfl⟩] w5 := by
    have h5 := hWW
    unfold EnW at h5
    rw [if_pos (by simp)] at h5
    rcases h5 with ⟨_, h, _⟩ | ⟨_, h⟩
    · exact .inl h
    · exact .inr h
  have HZ := Lib.hid hw5
  clear hf5 hF hWW hw5
  simp only [List.filterMap, List.foldl, List.setIfInBounds_toArray, List.set_cons_succ, List.set_cons_zero, e13]
  clear e13
  gi_wp2
  go_end0
  refine ⟨⟨_, rfl⟩, ?_⟩
  rcases HZ.out with h | h
  · first | exact .inl h | exact .inl ⟨_, rfl, h⟩
  · exact .inr ⟨_, List.prefix_refl _, h⟩

end Go.Proofs.YtalcinepeofmcaaDoor
