/- A region that draws its order, walked operation by operation: each operation keeps an invariant, whatever has been carried out before it. Cost: one small goal an operation, not one an order. -/
import Derived.Orders
import Derived.KernelRfl
import Derived.WalkKit
set_option linter.unusedVariables false
set_option linter.unusedSimpArgs false
namespace Go.Proofs.Ythmldeningpjbaa
open Go

def upd (l : Nat → Bool) (i : Nat) : Nat → Bool := fun j => if j = i then true else l j

def cntFalse (f : Nat → Bool) : Nat → Nat
  | 0 => 0
  | n + 1 => cntFalse f n + (if f n then 0 else 1)

theorem cntFalse_congr {f g : Nat → Bool} : ∀ n, (∀ j, j < n → f j = g j) → cntFalse f n = cntFalse g n
  | 0, _ => rfl
  | n + 1, h => by rw [cntFalse, cntFalse, cntFalse_congr n (fun j hj => h j (by omega)), h n (by omega)]

theorem cntFalse_upd {f : Nat → Bool} {i : Nat} (hf : f i = false) : ∀ n, i < n → cntFalse (upd f i) n + 1 = cntFalse f n
  | 0, h => absurd h (by omega)
  | n + 1, h => by
    by_cases hi : i = n
    · subst hi
      rw [cntFalse, cntFalse, cntFalse_congr i (fun j hj => by simp [upd]; omega : ∀ j, j < i → upd f i j = f j)]
      simp [upd, hf]
    · rw [cntFalse, cntFalse]
      have := cntFalse_upd hf n (by omega)
      have hn : upd f i n = f n := by simp [upd]; omega
      rw [hn]
      omega

theorem cntFalse_zero {f : Nat → Bool} : ∀ n, cntFalse f n = 0 → ∀ j, j < n → f j = true
  | 0, _, j, hj => absurd hj (by omega)
  | n + 1, h, j, hj => by
    rw [cntFalse] at h
    have h1 : f n = true := by
      cases hfn : f n with
      | true => rfl
      | false => rw [hfn] at h; simp at h
    by_cases hjn : j = n
    · subst hjn; exact h1
    · exact cntFalse_zero n (by omega) j (by omega)

theorem cntFalse_le (f : Nat → Bool) : ∀ n, cntFalse f n ≤ n
  | 0 => Nat.le_refl _
  | n + 1 => by rw [cntFalse]; have := cntFalse_le f n; split <;> omega

/-- the frame, when the operations of l have been carried out: each slot that one of them wrote is as φ says, each that none writes is as it was -/
structure FrOk (ops : List Oper) (a0 : Act) (φ : Nat → Value → World → Prop) (l : Nat → Bool) (a : Act) (w : World) : Prop where
  defers : a.defers = a0.defers
  size : a.tmps.size = a0.tmps.size
  other : ∀ t, (∀ j o, ops[j]? = some o → o.dst = some t → l j = false) → a.tmps[t]? = a0.tmps[t]?
  vals : ∀ j o d, l j = true → ops[j]? = some o → o.dst = some d → ∃ v, a.tmps[d]? = some v ∧ φ j v w
  closed : ∀ j o, l j = true → ops[j]? = some o → ∀ e ∈ o.after.toList, Region.binds .any e = true → l e.on = true

/-- what is asked of a region's text, for the kernel to look at -/
def regionOk (ops : List Oper) (n : Nat) : Bool :=
  (ops.filterMap (·.dst)).Nodup && (ops.filterMap (·.dst)).all (· < n) && ops.zipIdx.all (fun p => p.1.guard.isNone && p.1.after.toList.all fun e => !Region.binds .any e || decide (e.on < p.2))

theorem nodup_dst : ∀ {ops : List Oper}, (ops.filterMap (fun o => o.dst)).Nodup → ∀ {i j : Nat} {o o' : Oper} {d : Nat}, ops[i]? = some o → ops[j]? = some o' → o.dst = some d → o'.dst = some d → i = j
  | [], _, i, j, o, o', d, hi, _, _, _ => by simp at hi
  | x :: xs, h, i, j, o, o', d, hi, hj, ho, ho' => by
    have hx : (xs.filterMap (·.dst)).Nodup := by
      cases hxd : x.dst with
      | none => simpa [List.filterMap_cons, hxd] using h
      | some y => rw [List.filterMap_cons, hxd] at h; exact (List.nodup_cons.1 h).2
    have hmem : ∀ {k : Nat} {p : Oper}, xs[k]? = some p → p.dst = some d → x.dst ≠ some d := by
      intro k p hk hp hxd
      rw [List.filterMap_cons, hxd] at h
      exact (List.nodup_cons.1 h).1 (List.mem_filterMap.2 ⟨p, List.mem_of_getElem? hk, hp⟩)
    cases i with
    | zero =>
      cases j with
      | zero => rfl
      | succ j =>
        simp only [List.getElem?_cons_zero, Option.some.injEq] at hi
        subst hi
        exact absurd ho (hmem (by simpa using hj) ho')
    | succ i =>
      cases j with
      | zero =>
        simp only [List.getElem?_cons_zero, Option.some.injEq] at hj
        subst hj
        exact absurd ho' (hmem (by simpa using hi) ho)
      | succ j =>
        have := nodup_dst hx (i := i) (j := j) (by simpa using hi) (by simpa using hj) ho ho'
        omega

/-- f of each operation and its place -/
def AllFrom (f : Nat → Oper → Prop) : Nat → List Oper → Prop
  | _, [] => True
  | k, o :: os => f k o ∧ AllFrom f (k + 1) os

theorem allFrom_get {f : Nat → Oper → Prop} : ∀ {ops : List Oper} {k : Nat}, AllFrom f k ops → ∀ i o, ops[i]? = some o → f (k + i) o
  | [], _, _, i, o, h => by simp at h
  | x :: xs, k, ⟨h1, h2⟩, i, o, h => by
    cases i with
    | zero =>
      simp only [List.getElem?_cons_zero, Option.some.injEq] at h
      subst h
      exact h1
    | succ i =>
      have := allFrom_get h2 i o (by simpa using h)
      rwa [show k + 1 + i = k + (i + 1) from by omega] at this

theorem wp_region_inv {σ : Type} {P : Program} {ops : List Oper} {Q : Exit → Act → World → Prop} {id : Nat} {a0 : Act} {w0 : World} (hm : P.follows .mixedOrders = true)
    (hok : regionOk ops a0.tmps.size = true)
    (φ : σ → Nat → Value → World → Prop) (W : σ → (Nat → Bool) → World → Prop) (s0 : σ) (h0 : W s0 (fun _ => false) w0.drew)
    (hstep : ∀ i o, ops[i]? = some o → ∀ s l a w, l i = false → (∀ e ∈ o.after.toList, Region.binds .any e = true → l e.on = true) → W s l w → FrOk ops a0 (φ s) l a w →
      o.wp P a w (fun a' w' => ∃ s' v, a' = a.put o.dst v ∧ W s' (upd l i) w' ∧ (o.dst.isSome = true → φ s' i v w') ∧ (∀ j u, l j = true → φ s j u w → φ s' j u w')) Q)
    (hfin : ∀ s a w, W s (fun j => decide (j < ops.length)) w → FrOk ops a0 (φ s) (fun j => decide (j < ops.length)) a w → Q .normal a w) :
    (Code.region id ops.toArray true).wp P Q a0 w0 := by
  simp only [regionOk, Bool.and_eq_true, decide_eq_true_eq] at hok
  obtain ⟨⟨hnd, hltB⟩, hgB⟩ := hok
  have hlt : ∀ (o : Oper) (d : Nat), o ∈ ops → o.dst = some d → d < a0.tmps.size := fun o d ho hd => by
    have := List.all_eq_true.1 hltB d (List.mem_filterMap.2 ⟨o, ho, hd⟩)
    simpa using this
  have hg : ∀ i o, ops[i]? = some o → o.guard = none ∧ ∀ e ∈ o.after.toList, Region.binds .any e = true → e.on < i := fun i o ho => by
    have := List.all_eq_true.1 hgB (o, i) (List.mem_zipIdx_iff_getElem?.2 ho)
    simp only [Bool.and_eq_true, Option.isNone_iff_eq_none] at this
    refine ⟨this.1, fun e he hb => ?_⟩
    have h2 := List.all_eq_true.1 this.2 e he
    simpa [hb] using h2
  have hsz : ops.toArray.size = ops.length := by simp
  -- all have been carried out where none may come up
  have hall : ∀ listed : Array Bool, listed.size = ops.length → Region.ready .any ops.toArray listed = [] → ∀ n, ∀ j, j < n → j < ops.length → listed.getD j false = true := by
    intro listed hls hr n
    induction n with
    | zero => intro j hj; omega
    | succ n ih =>
      intro j hj hjl
      by_cases hjn : j < n
      · exact ih j hjn hjl
      · obtain rfl : j = n := by omega
        cases hl : listed.getD j false with
        | true => rfl
        | false =>
          exfalso
          have hl' : listed.getD j true = false ∨ listed.size ≤ j := by
            rcases Nat.lt_or_ge j listed.size with h | h
            · left; simp [h] at hl ⊢; exact hl
            · exact .inr h
          have ho : ops[j]? = some ops[j] := List.getElem?_eq_getElem hjl
          rcases hl' with hl' | hl'
          · have : j ∈ Region.ready .any ops.toArray listed := mem_ready.2 ⟨hl', ops[j], by simp [hjl], fun e he hb => ih e.on ((hg j _ ho).2 e (by simpa using he) hb) (by have := (hg j _ ho).2 e (by simpa using he) hb; omega)⟩
            rw [hr] at this
            cases this
          · omega
  have main : ∀ fuel (listed : Array Bool) (a : Act) (w : World) (s : σ), listed.size = ops.length → cntFalse (fun j => listed.getD j false) ops.length ≤ fuel → W s (fun j => listed.getD j false) w → FrOk ops a0 (φ s) (fun j => listed.getD j false) a w →
      wpAny P .any ops.toArray Q fuel listed a w := by
    intro fuel
    have hend : ∀ (listed : Array Bool) (a : Act) (w : World) (s : σ), listed.size = ops.length → (∀ j, j < ops.length → listed.getD j false = true) → W s (fun j => listed.getD j false) w → FrOk ops a0 (φ s) (fun j => listed.getD j false) a w → Q .normal a w := by
      intro listed a w s hs hl hW hF
      have he : (fun j => listed.getD j false) = fun j => decide (j < ops.length) := by
        funext j
        by_cases hj : j < ops.length
        · rw [hl j hj]; simp [hj]
        · simp [hj, hs]
      rw [he] at hW hF
      exact hfin s a w hW hF
    induction fuel with
    | zero =>
      intro listed a w s hs hc hW hF
      have hl := cntFalse_zero ops.length (Nat.le_zero.1 hc)
      refine ⟨?_, hend listed a w s hs hl hW hF⟩
      apply List.eq_nil_iff_forall_not_mem.2
      intro i hi
      obtain ⟨h1, o, ho, _⟩ := mem_ready.1 hi
      have hil : i < ops.length := by simpa using (Array.getElem?_eq_some_iff.1 ho).1
      have h2 := hl i hil
      have : i < listed.size := by omega
      simp [this] at h1 h2
      rw [h2] at h1
      cases h1
    | succ fuel ih =>
      intro listed a w s hs hc hW hF
      refine ⟨fun hr => hend listed a w s hs (fun j hj => hall listed hs hr (j + 1) j (by omega) hj) hW hF, fun i hi => ?_⟩
      obtain ⟨h1, o, ho, hdep⟩ := mem_ready.1 hi
      have hil : i < ops.length := by simpa using (Array.getElem?_eq_some_iff.1 ho).1
      have ho' : ops[i]? = some o := by rw [← ho]; simp
      have hli : i < listed.size := by omega
      have hl0 : listed.getD i false = false := by simp [hli] at h1 ⊢; exact h1
      have hst := hstep i o ho' s (fun j => listed.getD j false) a w hl0 (fun e he hb => hdep e (by simpa using he) hb) hW hF
      unfold wpOp
      rw [ho]
      simp only [Region.wanted, (hg i o ho').1, if_true]
      refine .inl (Oper.wp_mono ?_ hst)
      rintro a' w' ⟨s', v, rfl, hW', hφ, hstab⟩
      have hupd : (fun j => (listed.setIfInBounds i true).getD j false) = upd (fun j => listed.getD j false) i := by
        funext j
        simp only [upd]
        split
        · rename_i hj; subst hj; simp [hli]
        · rename_i hj; rw [getD_set_ne false (Ne.symm hj)]
      have hcl : ∀ j o', upd (fun j => listed.getD j false) i j = true → ops[j]? = some o' → ∀ e ∈ o'.after.toList, Region.binds .any e = true → upd (fun j => listed.getD j false) i e.on = true := by
        intro j o' hj ho'' e he hb
        have hold : (listed.getD e.on false) = true → upd (fun j => listed.getD j false) i e.on = true := fun h => by simp only [upd]; split <;> first | rfl | exact h
        by_cases hji : j = i
        · subst hji
          rw [ho'] at ho''
          injection ho'' with e1
          subst e1
          exact hold (hdep e (by simpa using he) hb)
        · have hj' : listed.getD j false = true := by simpa [upd, hji] using hj
          exact hold (hF.closed j o' hj' ho'' e he hb)
      have hF' : FrOk ops a0 (φ s') (upd (fun j => listed.getD j false) i) (a.put o.dst v) w' := by
        cases hd : o.dst with
        | none =>
          refine ⟨hF.defers, hF.size, fun t ht => hF.other t (fun j o' hj hd' => by have := ht j o' hj hd'; simp only [upd] at this; split at this <;> first | exact this | cases this), fun j o' d hj ho'' hd' => ?_, hcl⟩
          have hji : j ≠ i := by
            rintro rfl
            rw [ho'] at ho''
            injection ho'' with e
            rw [← e, hd] at hd'
            cases hd'
          have hj' : listed.getD j false = true := by simpa [upd, hji] using hj
          obtain ⟨u, hu, hp⟩ := hF.vals j o' d hj' ho'' hd'
          exact ⟨u, hu, hstab j u hj' hp⟩
        | some d0 =>
          refine ⟨hF.defers, by simp [Act.put, hF.size], fun t ht => ?_, fun j o' d hj ho'' hd' => ?_, hcl⟩
          · have : d0 ≠ t := fun e => by
              have := ht i o ho' (by rw [hd, e])
              simp [upd] at this
            simp only [Act.put]
            rw [Array.getElem?_setIfInBounds_ne this]
            exact hF.other t (fun j o' hj hd' => by have := ht j o' hj hd'; simp only [upd] at this; split at this <;> first | exact this | cases this)
          · by_cases hji : j = i
            · subst hji
              rw [ho'] at ho''
              injection ho'' with e
              subst e
              rw [hd] at hd'
              injection hd' with e
              subst e
              have hlt' : d0 < a.tmps.size := by rw [hF.size]; exact hlt o d0 (List.mem_of_getElem? ho') hd
              exact ⟨v, by simp [Act.put, hlt'], hφ (by rw [hd]; rfl)⟩
            · have hj' : listed.getD j false = true := by simpa [upd, hji] using hj
              obtain ⟨u, hu, hp⟩ := hF.vals j o' d hj' ho'' hd'
              have hne : d0 ≠ d := by
                rintro rfl
                exact hji (nodup_dst hnd ho'' ho' hd' hd)
              refine ⟨u, ?_, hstab j u hj' hp⟩
              simp only [Act.put]
              rw [Array.getElem?_setIfInBounds_ne hne]
              exact hu
      refine ih _ _ _ s' (by simp [hs]) ?_ (by rw [hupd]; exact hW') (by rw [hupd]; exact hF')
      rw [hupd]
      have := cntFalse_upd (f := fun j => listed.getD j false) hl0 ops.length hil
      omega
  refine wp_region_any hm ?_
  rw [hsz]
  have hf : (fun j => (Array.replicate ops.length false).getD j false) = fun _ => false := by
    funext j
    rcases Nat.lt_or_ge j ops.length with h | h <;> simp [h]
  refine main ops.length _ a0 w0.drew s0 (by simp) (cntFalse_le _ _) (by rw [hf]; exact h0) ?_
  exact ⟨rfl, rfl, fun _ _ => rfl, fun j o d hj => (by rw [congrFun hf j] at hj; cases hj), fun j o hj => (by rw [congrFun hf j] at hj; cases hj)⟩
/-- what one operation owes -/
def StepOk {σ : Type} (P : Program) (ops : List Oper) (Q : Exit → Act → World → Prop) (a0 : Act) (φ : σ → Nat → Value → World → Prop) (W : σ → (Nat → Bool) → World → Prop) (i : Nat) (o : Oper) : Prop :=
  ∀ s l a w, l i = false → (∀ e ∈ o.after.toList, Region.binds .any e = true → l e.on = true) → W s l w → FrOk ops a0 (φ s) l a w →
      o.wp P a w (fun a' w' => ∃ s' v, a' = a.put o.dst v ∧ W s' (upd l i) w' ∧ (o.dst.isSome = true → φ s' i v w') ∧ (∀ j u, l j = true → φ s j u w → φ s' j u w')) Q

theorem wp_region_steps {σ : Type} {P : Program} {ops : List Oper} {Q : Exit → Act → World → Prop} {id : Nat} {a0 : Act} {w0 : World} (hm : P.follows .mixedOrders = true)
    (hok : regionOk ops a0.tmps.size = true)
    (φ : σ → Nat → Value → World → Prop) (W : σ → (Nat → Bool) → World → Prop) (s0 : σ) (h0 : W s0 (fun _ => false) w0.drew)
    (hstep : AllFrom (StepOk P ops Q a0 φ W) 0 ops)
    (hfin : ∀ s a w, W s (fun j => decide (j < ops.length)) w → FrOk ops a0 (φ s) (fun j => decide (j < ops.length)) a w → Q .normal a w) :
    (Code.region id ops.toArray true).wp P Q a0 w0 :=
  wp_region_inv hm hok φ W s0 h0 (fun i o ho => by have := allFrom_get hstep i o ho; rwa [Nat.zero_add] at this) hfin

/-- an operation that only computes or reads -/
theorem step_pure {σ : Type} {P : Program} {ops : List Oper} {Q : Exit → Act → World → Prop} {a0 : Act} {φ : σ → Nat → Value → World → Prop} {W : σ → (Nat → Bool) → World → Prop} {i : Nat} {o : Oper}
    (h : ∀ s l a w, l i = false → (∀ e ∈ o.after.toList, Region.binds .any e = true → l e.on = true) → W s l w → FrOk ops a0 (φ s) l a w →
      W s (upd l i) w ∧ ∃ v, (execOp a.eval o).run P w = .ok (.value v) w ∧ φ s i v w) : StepOk P ops Q a0 φ W i o := by
  intro s l a w hl hd hW hF
  obtain ⟨hW', v, hr, hp⟩ := h s l a w hl hd hW hF
  unfold Oper.wp
  rw [hr]
  exact ⟨s, v, rfl, hW', fun _ => hp, fun _ _ _ h => h⟩

/-- an operation that yields a value and turns the world -/
theorem step_run {σ : Type} {P : Program} {ops : List Oper} {Q : Exit → Act → World → Prop} {a0 : Act} {φ : σ → Nat → Value → World → Prop} {W : σ → (Nat → Bool) → World → Prop} {i : Nat} {o : Oper}
    (h : ∀ s l a w, l i = false → (∀ e ∈ o.after.toList, Region.binds .any e = true → l e.on = true) → W s l w → FrOk ops a0 (φ s) l a w →
      ∃ v w' s', (execOp a.eval o).run P w = .ok (.value v) w' ∧ W s' (upd l i) w' ∧ φ s' i v w' ∧ (∀ j u, l j = true → φ s j u w → φ s' j u w')) : StepOk P ops Q a0 φ W i o := by
  intro s l a w hl hd hW hF
  obtain ⟨v, w', s', hr, hW', hp, hst⟩ := h s l a w hl hd hW hF
  unfold Oper.wp
  rw [hr]
  exact ⟨s', v, rfl, hW', fun _ => hp, hst⟩

/-- a store -/
theorem step_store {σ : Type} {P : Program} {ops : List Oper} {Q : Exit → Act → World → Prop} {a0 : Act} {φ : σ → Nat → Value → World → Prop} {W : σ → (Nat → Bool) → World → Prop} {i : Nat} {o : Oper} (hn : o.dst = none)
    (h : ∀ s l a w, l i = false → (∀ e ∈ o.after.toList, Region.binds .any e = true → l e.on = true) → W s l w → FrOk ops a0 (φ s) l a w →
      ∃ w' s' r, (execOp a.eval o).run P w = .ok r w' ∧ (r = .skip ∨ ∃ v, r = .value v) ∧ W s' (upd l i) w' ∧ (∀ j u, l j = true → φ s j u w → φ s' j u w')) : StepOk P ops Q a0 φ W i o := by
  intro s l a w hl hd hW hF
  obtain ⟨w', s', r, hr, hr', hW', hst⟩ := h s l a w hl hd hW hF
  unfold Oper.wp
  rw [hr]
  rcases hr' with rfl | ⟨v, rfl⟩
  · exact ⟨s', undef, rfl, hW', fun hs => (by rw [hn] at hs; cases hs), hst⟩
  · exact ⟨s', v, rfl, hW', fun hs => (by rw [hn] at hs; cases hs), hst⟩

/-- a call of a Go function -/
theorem step_call {σ : Type} {P : Program} {ops : List Oper} {Q : Exit → Act → World → Prop} {a0 : Act} {φ : σ → Nat → Value → World → Prop} {W : σ → (Nat → Bool) → World → Prop} {i : Nat} {o : Oper}
    (h : ∀ s l a w, l i = false → (∀ e ∈ o.after.toList, Region.binds .any e = true → l e.on = true) → W s l w → FrOk ops a0 (φ s) l a w →
      ∃ f args, (execOp a.eval o).run P w = .ok (.enter f args) w ∧ Calls P f args w fun e w' => ∃ v s', e = .returned v ∧ W s' (upd l i) w' ∧ φ s' i v w' ∧ (∀ j u, l j = true → φ s j u w → φ s' j u w')) : StepOk P ops Q a0 φ W i o := by
  intro s l a w hl hd hW hF
  obtain ⟨f, args, hr, hc⟩ := h s l a w hl hd hW hF
  unfold Oper.wp
  rw [hr, Oper.upon_enter]
  refine hc.mono ?_
  rintro e w' ⟨v, s', rfl, hW', hp, hst⟩
  exact ⟨s', v, rfl, hW', fun _ => hp, hst⟩

section
variable {ops : List Oper} {a0 : Act} {φ : Nat → Value → World → Prop} {l : Nat → Bool} {a : Act} {w : World}
/-- j waits for i -/
theorem FrOk.notYet (h : FrOk ops a0 φ l a w) (i j : Nat) (hi : l i = false) (hw : ((ops[j]?).map fun o => o.after.toList.any fun e => Region.binds .any e && e.on == i) = some true) : l j = false := by
  cases hj : l j with
  | false => rfl
  | true =>
    cases ho : ops[j]? with
    | none => rw [ho] at hw; cases hw
    | some o =>
      rw [ho] at hw
      simp only [Option.map_some, Option.some.injEq] at hw
      obtain ⟨e, he, hb⟩ := List.any_eq_true.1 hw
      simp only [Bool.and_eq_true, beq_iff_eq] at hb
      have := h.closed j o hj ho e he hb.1
      rw [hb.2, hi] at this
      cases this
/-- i has been carried out where j has, which waits for it -/
theorem FrOk.before (h : FrOk ops a0 φ l a w) (i j : Nat) (hj : l j = true) (hw : ((ops[j]?).map fun o => o.after.toList.any fun e => Region.binds .any e && e.on == i) = some true) : l i = true := by
  cases hi : l i with
  | true => rfl
  | false => rw [h.notYet i j hi hw] at hj; cases hj
theorem FrOk.old (h : FrOk ops a0 φ l a w) (t : Nat) (ht : ops.all (fun o => decide (o.dst ≠ some t)) = true) : a.eval (.tmp t) = a0.eval (.tmp t) := by
  have := h.other t (fun j o ho hd => absurd hd (by simpa using List.all_eq_true.1 ht o (List.mem_of_getElem? ho)))
  simp only [Act.eval, Array.getD_eq_getD_getElem?, this]
/-- a slot that j alone writes, and j has not been carried out -/
theorem FrOk.was (h : FrOk ops a0 φ l a w) (j t : Nat) (hl : l j = false) (ht : ops.zipIdx.all (fun p => decide (p.1.dst ≠ some t) || p.2 == j) = true) : a.eval (.tmp t) = a0.eval (.tmp t) := by
  have := h.other t (fun i o ho hd => by
    have h1 := List.all_eq_true.1 ht (o, i) (List.mem_zipIdx_iff_getElem?.2 ho)
    simp [hd] at h1
    rw [h1]; exact hl)
  simp only [Act.eval, Array.getD_eq_getD_getElem?, this]
theorem FrOk.new (h : FrOk ops a0 φ l a w) (j d : Nat) (hl : l j = true) (hd : (ops[j]?).bind (·.dst) = some d) : φ j (a.eval (.tmp d)) w := by
  cases ho : ops[j]? with
  | none => rw [ho] at hd; cases hd
  | some o =>
    rw [ho] at hd
    obtain ⟨v, hv, hp⟩ := h.vals j o d hl ho hd
    simpa [Act.eval, Array.getD_eq_getD_getElem?, hv] using hp

theorem foldl_set (f : Nat → Value) : ∀ (ts : List Nat) (z : Array Value), (ts.foldl (fun z t => z.setIfInBounds t (f t)) z).size = z.size ∧
    ∀ i, i < z.size → (ts.foldl (fun z t => z.setIfInBounds t (f t)) z)[i]? = if i ∈ ts then some (f i) else z[i]?
  | [], z => ⟨rfl, fun i _ => by simp⟩
  | t :: ts, z => by
    obtain ⟨h1, h2⟩ := foldl_set f ts (z.setIfInBounds t (f t))
    refine ⟨by simpa using h1, fun i hi => ?_⟩
    have := h2 i (by simpa using hi)
    simp only [List.foldl_cons]
    rw [this]
    by_cases hts : i ∈ ts
    · simp [hts]
    · by_cases hit : t = i
      · subst hit; simp [hts, hi]
      · simp [hts, Array.getElem?_setIfInBounds_ne hit, Ne.symm hit]

/-- the frame behind the region, written out -/
theorem FrOk.lit (h : FrOk ops a0 φ (fun j => decide (j < ops.length)) a w) : ∃ f : Nat → Value, (∀ t, f t = a.eval (.tmp t)) ∧ a = { tmps := (ops.filterMap (fun o => o.dst)).foldl (fun z t => z.setIfInBounds t (f t)) a0.tmps, defers := a0.defers } := by
  refine ⟨fun t => a.eval (.tmp t), fun _ => rfl, ?_⟩
  obtain ⟨h1, h2⟩ := foldl_set (fun t => a.eval (.tmp t)) (ops.filterMap (fun o => o.dst)) a0.tmps
  have ht : a.tmps = (ops.filterMap (fun o => o.dst)).foldl (fun z t => z.setIfInBounds t (a.eval (.tmp t))) a0.tmps := by
    apply Array.ext_getElem?
    intro i
    rcases Nat.lt_or_ge i a0.tmps.size with hi | hi
    · rw [h2 i hi]
      split
      · simp [Act.eval, Array.getD_eq_getD_getElem?, h.size, hi]
      · rename_i hn
        exact h.other i (fun j o ho hd => absurd (List.mem_filterMap.2 ⟨o, List.mem_of_getElem? ho, hd⟩) hn)
    · rw [Array.getElem?_eq_none (by rw [h.size]; exact hi), Array.getElem?_eq_none (by rw [h1]; exact hi)]
  obtain ⟨tm, df⟩ := a
  have hdf := h.defers
  simp only at ht hdf ⊢
  rw [hdf]
  congr 1
end
end Go.Proofs.Ythmldeningpjbaa
/- As XRegion, for regions with guarded operations: an operation whose guard says no only puts undef. -/
namespace Go.Proofs.Ythmldeningpjbaa
open Go
set_option linter.unusedVariables false

def regionOkG (ops : List Oper) (n : Nat) : Bool :=
  (ops.filterMap (·.dst)).Nodup && (ops.filterMap (·.dst)).all (· < n) && ops.zipIdx.all (fun p => p.1.after.toList.all fun e => !Region.binds .any e || decide (e.on < p.2))
/-- what one operation owes, wanted or not -/
def GStep {σ : Type} (P : Program) (ops : List Oper) (Q : Exit → Act → World → Prop) (φ : σ → Nat → Value → World → Prop) (W : σ → (Nat → Bool) → World → Prop) (i : Nat) (o : Oper) (s : σ) (l : Nat → Bool) (a : Act) (w : World) : Prop :=
  if Region.wanted o (yielded ops.toArray a.tmps) = true then o.wp P a w (fun a' w' => ∃ s' v, a' = a.put o.dst v ∧ W s' (upd l i) w' ∧ (o.dst.isSome = true → φ s' i v w') ∧ (∀ j u, l j = true → φ s j u w → φ s' j u w')) Q
  else ∃ s' v, a.put o.dst undef = a.put o.dst v ∧ W s' (upd l i) w ∧ (o.dst.isSome = true → φ s' i v w) ∧ (∀ j u, l j = true → φ s j u w → φ s' j u w)

theorem wp_region_invG {σ : Type} {P : Program} {ops : List Oper} {Q : Exit → Act → World → Prop} {id : Nat} {a0 : Act} {w0 : World} (hm : P.follows .mixedOrders = true)
    (hok : regionOkG ops a0.tmps.size = true)
    (φ : σ → Nat → Value → World → Prop) (W : σ → (Nat → Bool) → World → Prop) (s0 : σ) (h0 : W s0 (fun _ => false) w0.drew)
    (hstep : ∀ i o, ops[i]? = some o → ∀ s l a w, l i = false → (∀ e ∈ o.after.toList, Region.binds .any e = true → l e.on = true) → W s l w → FrOk ops a0 (φ s) l a w →
      GStep P ops Q φ W i o s l a w)
    (hfin : ∀ s a w, W s (fun j => decide (j < ops.length)) w → FrOk ops a0 (φ s) (fun j => decide (j < ops.length)) a w → Q .normal a w) :
    (Code.region id ops.toArray true).wp P Q a0 w0 := by
  simp only [regionOkG, Bool.and_eq_true, decide_eq_true_eq] at hok
  obtain ⟨⟨hnd, hltB⟩, hgB⟩ := hok
  have hlt : ∀ (o : Oper) (d : Nat), o ∈ ops → o.dst = some d → d < a0.tmps.size := fun o d ho hd => by
    have := List.all_eq_true.1 hltB d (List.mem_filterMap.2 ⟨o, ho, hd⟩)
    simpa using this
  have hg : ∀ i o, ops[i]? = some o → True ∧ ∀ e ∈ o.after.toList, Region.binds .any e = true → e.on < i := fun i o ho => by
    have := List.all_eq_true.1 hgB (o, i) (List.mem_zipIdx_iff_getElem?.2 ho)
    simp only at this
    refine ⟨trivial, fun e he hb => ?_⟩
    have h2 := List.all_eq_true.1 this e he
    simpa [hb] using h2
  have hsz : ops.toArray.size = ops.length := by simp
  -- all have been carried out where none may come up
  have hall : ∀ listed : Array Bool, listed.size = ops.length → Region.ready .any ops.toArray listed = [] → ∀ n, ∀ j, j < n → j < ops.length → listed.getD j false = true := by
    intro listed hls hr n
    induction n with
    | zero => intro j hj; omega
    | succ n ih =>
      intro j hj hjl
      by_cases hjn : j < n
      · exact ih j hjn hjl
      · obtain rfl : j = n := by omega
        cases hl : listed.getD j false with
        | true => rfl
        | false =>
          exfalso
          have hl' : listed.getD j true = false ∨ listed.size ≤ j := by
            rcases Nat.lt_or_ge j listed.size with h | h
            · left; simp [h] at hl ⊢; exact hl
            · exact .inr h
          have ho : ops[j]? = some ops[j] := List.getElem?_eq_getElem hjl
          rcases hl' with hl' | hl'
          · have : j ∈ Region.ready .any ops.toArray listed := mem_ready.2 ⟨hl', ops[j], by simp [hjl], fun e he hb => ih e.on ((hg j _ ho).2 e (by simpa using he) hb) (by have := (hg j _ ho).2 e (by simpa using he) hb; omega)⟩
            rw [hr] at this
            cases this
          · omega
  have main : ∀ fuel (listed : Array Bool) (a : Act) (w : World) (s : σ), listed.size = ops.length → cntFalse (fun j => listed.getD j false) ops.length ≤ fuel → W s (fun j => listed.getD j false) w → FrOk ops a0 (φ s) (fun j => listed.getD j false) a w →
      wpAny P .any ops.toArray Q fuel listed a w := by
    intro fuel
    have hend : ∀ (listed : Array Bool) (a : Act) (w : World) (s : σ), listed.size = ops.length → (∀ j, j < ops.length → listed.getD j false = true) → W s (fun j => listed.getD j false) w → FrOk ops a0 (φ s) (fun j => listed.getD j false) a w → Q .normal a w := by
      intro listed a w s hs hl hW hF
      have he : (fun j => listed.getD j false) = fun j => decide (j < ops.length) := by
        funext j
        by_cases hj : j < ops.length
        · rw [hl j hj]; simp [hj]
        · simp [hj, hs]
      rw [he] at hW hF
      exact hfin s a w hW hF
    induction fuel with
    | zero =>
      intro listed a w s hs hc hW hF
      have hl := cntFalse_zero ops.length (Nat.le_zero.1 hc)
      refine ⟨?_, hend listed a w s hs hl hW hF⟩
      apply List.eq_nil_iff_forall_not_mem.2
      intro i hi
      obtain ⟨h1, o, ho, _⟩ := mem_ready.1 hi
      have hil : i < ops.length := by simpa using (Array.getElem?_eq_some_iff.1 ho).1
      have h2 := hl i hil
      have : i < listed.size := by omega
      simp [this] at h1 h2
      rw [h2] at h1
      cases h1
    | succ fuel ih =>
      intro listed a w s hs hc hW hF
      refine ⟨fun hr => hend listed a w s hs (fun j hj => hall listed hs hr (j + 1) j (by omega) hj) hW hF, fun i hi => ?_⟩
      obtain ⟨h1, o, ho, hdep⟩ := mem_ready.1 hi
      have hil : i < ops.length := by simpa using (Array.getElem?_eq_some_iff.1 ho).1
      have ho' : ops[i]? = some o := by rw [← ho]; simp
      have hli : i < listed.size := by omega
      have hl0 : listed.getD i false = false := by simp [hli] at h1 ⊢; exact h1
      have hst := hstep i o ho' s (fun j => listed.getD j false) a w hl0 (fun e he hb => hdep e (by simpa using he) hb) hW hF
      unfold wpOp
      rw [ho]
      have key : ∀ a' w', (∃ s' v, a' = a.put o.dst v ∧ W s' (upd (fun j => listed.getD j false) i) w' ∧ (o.dst.isSome = true → φ s' i v w') ∧ (∀ j u, (fun j => listed.getD j false) j = true → φ s j u w → φ s' j u w')) → wpAny P .any ops.toArray Q fuel (listed.setIfInBounds i true) a' w' := ?_
      · unfold GStep at hst
        simp only
        by_cases hw : Region.wanted o (yielded ops.toArray a.tmps) = true
        · rw [if_pos hw] at hst ⊢
          exact .inl (Oper.wp_mono key hst)
        · rw [if_neg hw] at hst ⊢
          exact key _ _ hst
      rintro a' w' ⟨s', v, rfl, hW', hφ, hstab⟩
      have hupd : (fun j => (listed.setIfInBounds i true).getD j false) = upd (fun j => listed.getD j false) i := by
        funext j
        simp only [upd]
        split
        · rename_i hj; subst hj; simp [hli]
        · rename_i hj; rw [getD_set_ne false (Ne.symm hj)]
      have hcl : ∀ j o', upd (fun j => listed.getD j false) i j = true → ops[j]? = some o' → ∀ e ∈ o'.after.toList, Region.binds .any e = true → upd (fun j => listed.getD j false) i e.on = true := by
        intro j o' hj ho'' e he hb
        have hold : (listed.getD e.on false) = true → upd (fun j => listed.getD j false) i e.on = true := fun h => by simp only [upd]; split <;> first | rfl | exact h
        by_cases hji : j = i
        · subst hji
          rw [ho'] at ho''
          injection ho'' with e1
          subst e1
          exact hold (hdep e (by simpa using he) hb)
        · have hj' : listed.getD j false = true := by simpa [upd, hji] using hj
          exact hold (hF.closed j o' hj' ho'' e he hb)
      have hF' : FrOk ops a0 (φ s') (upd (fun j => listed.getD j false) i) (a.put o.dst v) w' := by
        cases hd : o.dst with
        | none =>
          refine ⟨hF.defers, hF.size, fun t ht => hF.other t (fun j o' hj hd' => by have := ht j o' hj hd'; simp only [upd] at this; split at this <;> first | exact this | cases this), fun j o' d hj ho'' hd' => ?_, hcl⟩
          have hji : j ≠ i := by
            rintro rfl
            rw [ho'] at ho''
            injection ho'' with e
            rw [← e, hd] at hd'
            cases hd'
          have hj' : listed.getD j false = true := by simpa [upd, hji] using hj
          obtain ⟨u, hu, hp⟩ := hF.vals j o' d hj' ho'' hd'
          exact ⟨u, hu, hstab j u hj' hp⟩
        | some d0 =>
          refine ⟨hF.defers, by simp [Act.put, hF.size], fun t ht => ?_, fun j o' d hj ho'' hd' => ?_, hcl⟩
          · have : d0 ≠ t := fun e => by
              have := ht i o ho' (by rw [hd, e])
              simp [upd] at this
            simp only [Act.put]
            rw [Array.getElem?_setIfInBounds_ne this]
            exact hF.other t (fun j o' hj hd' => by have := ht j o' hj hd'; simp only [upd] at this; split at this <;> first | exact this | cases this)
          · by_cases hji : j = i
            · subst hji
              rw [ho'] at ho''
              injection ho'' with e
              subst e
              rw [hd] at hd'
              injection hd' with e
              subst e
              have hlt' : d0 < a.tmps.size := by rw [hF.size]; exact hlt o d0 (List.mem_of_getElem? ho') hd
              exact ⟨v, by simp [Act.put, hlt'], hφ (by rw [hd]; rfl)⟩
            · have hj' : listed.getD j false = true := by simpa [upd, hji] using hj
              obtain ⟨u, hu, hp⟩ := hF.vals j o' d hj' ho'' hd'
              have hne : d0 ≠ d := by
                rintro rfl
                exact hji (nodup_dst hnd ho'' ho' hd' hd)
              refine ⟨u, ?_, hstab j u hj' hp⟩
              simp only [Act.put]
              rw [Array.getElem?_setIfInBounds_ne hne]
              exact hu
      refine ih _ _ _ s' (by simp [hs]) ?_ (by rw [hupd]; exact hW') (by rw [hupd]; exact hF')
      rw [hupd]
      have := cntFalse_upd (f := fun j => listed.getD j false) hl0 ops.length hil
      omega
  refine wp_region_any hm ?_
  rw [hsz]
  have hf : (fun j => (Array.replicate ops.length false).getD j false) = fun _ => false := by
    funext j
    rcases Nat.lt_or_ge j ops.length with h | h <;> simp [h]
  refine main ops.length _ a0 w0.drew s0 (by simp) (cntFalse_le _ _) (by rw [hf]; exact h0) ?_
  exact ⟨rfl, rfl, fun _ _ => rfl, fun j o d hj => (by rw [congrFun hf j] at hj; cases hj), fun j o hj => (by rw [congrFun hf j] at hj; cases hj)⟩

def StepOkG {σ : Type} (P : Program) (ops : List Oper) (Q : Exit → Act → World → Prop) (a0 : Act) (φ : σ → Nat → Value → World → Prop) (W : σ → (Nat → Bool) → World → Prop) (i : Nat) (o : Oper) : Prop :=
  ∀ s l a w, l i = false → (∀ e ∈ o.after.toList, Region.binds .any e = true → l e.on = true) → W s l w → FrOk ops a0 (φ s) l a w → GStep P ops Q φ W i o s l a w
theorem wp_region_stepsG {σ : Type} {P : Program} {ops : List Oper} {Q : Exit → Act → World → Prop} {id : Nat} {a0 : Act} {w0 : World} (hm : P.follows .mixedOrders = true)
    (hok : regionOkG ops a0.tmps.size = true)
    (φ : σ → Nat → Value → World → Prop) (W : σ → (Nat → Bool) → World → Prop) (s0 : σ) (h0 : W s0 (fun _ => false) w0.drew)
    (hstep : AllFrom (StepOkG P ops Q a0 φ W) 0 ops)
    (hfin : ∀ s a w, W s (fun j => decide (j < ops.length)) w → FrOk ops a0 (φ s) (fun j => decide (j < ops.length)) a w → Q .normal a w) :
    (Code.region id ops.toArray true).wp P Q a0 w0 :=
  wp_region_invG hm hok φ W s0 h0 (fun i o ho => by have := allFrom_get hstep i o ho; rwa [Nat.zero_add] at this) hfin
/-- an operation without a guard -/
theorem stepG_plain {σ : Type} {P : Program} {ops : List Oper} {Q : Exit → Act → World → Prop} {a0 : Act} {φ : σ → Nat → Value → World → Prop} {W : σ → (Nat → Bool) → World → Prop} {i : Nat} {o : Oper} (hg : o.guard = none) (h : StepOk P ops Q a0 φ W i o) : StepOkG P ops Q a0 φ W i o := by
  intro s l a w hl hd hW hF
  unfold GStep
  rw [if_pos (by simp [Region.wanted, hg])]
  exact h s l a w hl hd hW hF
/-- a guarded operation: what it owes where its guard says yes, and that nothing is lost where it says no -/
theorem stepG_guard {σ : Type} {P : Program} {ops : List Oper} {Q : Exit → Act → World → Prop} {a0 : Act} {φ : σ → Nat → Value → World → Prop} {W : σ → (Nat → Bool) → World → Prop} {i : Nat} {o : Oper}
    (hy : ∀ s l a w, l i = false → (∀ e ∈ o.after.toList, Region.binds .any e = true → l e.on = true) → W s l w → FrOk ops a0 (φ s) l a w → Region.wanted o (yielded ops.toArray a.tmps) = true →
      o.wp P a w (fun a' w' => ∃ s' v, a' = a.put o.dst v ∧ W s' (upd l i) w' ∧ (o.dst.isSome = true → φ s' i v w') ∧ (∀ j u, l j = true → φ s j u w → φ s' j u w')) Q)
    (hn : ∀ s l a w, l i = false → (∀ e ∈ o.after.toList, Region.binds .any e = true → l e.on = true) → W s l w → FrOk ops a0 (φ s) l a w → Region.wanted o (yielded ops.toArray a.tmps) = false → W s (upd l i) w ∧ φ s i undef w) : StepOkG P ops Q a0 φ W i o := by
  intro s l a w hl hd hW hF
  unfold GStep
  by_cases hw : Region.wanted o (yielded ops.toArray a.tmps) = true
  · rw [if_pos hw]; exact hy s l a w hl hd hW hF hw
  · rw [if_neg hw]
    obtain ⟨h1, h2⟩ := hn s l a w hl hd hW hF (by simpa using hw)
    exact ⟨s, undef, rfl, h1, fun _ => h2, fun _ _ _ h => h⟩
end Go.Proofs.Ythmldeningpjbaa
/- Guards that are decided: a guarded operation that is carried out, or that is not. -/
namespace Go.Proofs.Ythmldeningpjbaa
open Go
set_option linter.unusedVariables false

section
variable {σ : Type} {P : Program} {ops : List Oper} {Q : Exit → Act → World → Prop} {a0 : Act} {φ : σ → Nat → Value → World → Prop} {W : σ → (Nat → Bool) → World → Prop} {i : Nat} {o : Oper}
theorem wanted_eq {φ : Nat → Value → World → Prop} {l : Nat → Bool} {a : Act} {w : World} (hF : FrOk ops a0 φ l a w) {g d : Nat} {b z : Bool} (ho : o.guard = some (g, b)) (hd : (ops[g]?).bind (·.dst) = some d) (hl : l g = true) (hφ : ∀ v, φ g v w → v = .bool z) :
    Region.wanted o (yielded ops.toArray a.tmps) = (z == b) := by
  cases hg : ops[g]? with
  | none => rw [hg] at hd; cases hd
  | some og =>
    rw [hg] at hd
    obtain ⟨v, hv, hp⟩ := hF.vals g og d hl hg hd
    rw [hφ v hp] at hv
    have hd' : og.dst = some d := hd
    simp [Region.wanted, ho, yielded, hg, hd', hv]
theorem stepG_yes (h : StepOk P ops Q a0 φ W i o) (hw : ∀ (s : σ) (l : Nat → Bool) (a : Act) (w : World), (∀ e ∈ o.after.toList, Region.binds .any e = true → l e.on = true) → FrOk ops a0 (φ s) l a w → Region.wanted o (yielded ops.toArray a.tmps) = true) : StepOkG P ops Q a0 φ W i o :=
  stepG_guard (fun s l a w hl hd hW hF _ => h s l a w hl hd hW hF) (fun s l a w hl hd hW hF hn => by rw [hw s l a w hd hF] at hn; cases hn)
theorem stepG_no (h : ∀ (s : σ) (l : Nat → Bool) (a : Act) (w : World), l i = false → W s l w → W s (upd l i) w ∧ φ s i undef w) (hw : ∀ (s : σ) (l : Nat → Bool) (a : Act) (w : World), (∀ e ∈ o.after.toList, Region.binds .any e = true → l e.on = true) → FrOk ops a0 (φ s) l a w → Region.wanted o (yielded ops.toArray a.tmps) = false) : StepOkG P ops Q a0 φ W i o :=
  stepG_guard (fun s l a w hl hd hW hF hn => by rw [hw s l a w hd hF] at hn; cases hn) (fun s l a w hl hd hW hF _ => h s l a w hl hW)
end
end Go.Proofs.Ythmldeningpjbaa
/- The loops of a function's text, in its order: for a loop's round as a theorem of its own. -/
namespace Go.Proofs.Ythmldeningpjbaa
open Go

def loopsOf : Code → List Code
  | .loop c => c :: loopsOf c
  | .seq a b => loopsOf a ++ loopsOf b
  | .block _ c => loopsOf c
  | .scope c => loopsOf c
  | .cond _ a b => loopsOf a ++ loopsOf b
  | _ => []
noncomputable def loopBody (f : Func) (i : Nat) : Code := ((loopsOf (f.body.getD .skip))[i]?).getD .skip
end Go.Proofs.Ythmldeningpjbaa
