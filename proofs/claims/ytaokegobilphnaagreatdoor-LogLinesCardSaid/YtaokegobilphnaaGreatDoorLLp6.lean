/- As XRegionG, in a fence that is open: for what a range function's iterator does. -/
import Derived.Test.YtaokegobilphnaaGreatDoorLLp5
import Derived.OrdersIn
import Derived.TacticsIn
import Derived.Test.YtaokegobilphnaaGreatDoorLLp4
import Derived.Sort.CutIn
import Derived.Test.YtaokegobilphnaaGreatDoorLLp1
import Derived.OwnWalkIn
import Derived.Lib.AppendIntMem
import Derived.Test.YtaokegobilphnaaGreatDoorLLp3
set_option linter.unusedVariables false
set_option linter.unusedSimpArgs false
namespace Go.Proofs.YtaokegobilphnaaGreatDoor
open Go
set_option linter.unusedVariables false

def IStep {σ : Type} (nn : Nat) (P : Program) (ops : List Oper) (Q : Exit → Act → World → Prop) (φ : σ → Nat → Value → World → Prop) (W : σ → (Nat → Bool) → World → Prop) (i : Nat) (o : Oper) (s : σ) (l : Nat → Bool) (a : Act) (w : World) : Prop :=
  if Region.wanted o (yielded ops.toArray a.tmps) = true then o.wpIn Fence.wide nn P a w (fun a' w' => ∃ s' v, a' = a.put o.dst v ∧ W s' (upd l i) w' ∧ (o.dst.isSome = true → φ s' i v w') ∧ (∀ j u, l j = true → φ s j u w → φ s' j u w')) Q
  else ∃ s' v, a.put o.dst undef = a.put o.dst v ∧ W s' (upd l i) w ∧ (o.dst.isSome = true → φ s' i v w) ∧ (∀ j u, l j = true → φ s j u w → φ s' j u w)

theorem wpIn_region_invI {σ : Type} {nn : Nat} {P : Program} {ops : List Oper} {Q : Exit → Act → World → Prop} {id : Nat} {a0 : Act} {w0 : World} (hm : P.follows .mixedOrders = true)
    (hok : regionOkG ops a0.tmps.size = true)
    (φ : σ → Nat → Value → World → Prop) (W : σ → (Nat → Bool) → World → Prop) (s0 : σ) (h0 : W s0 (fun _ => false) w0.drew)
    (hstep : ∀ i o, ops[i]? = some o → ∀ s l a w, l i = false → (∀ e ∈ o.after.toList, Region.binds .any e = true → l e.on = true) → W s l w → FrOk ops a0 (φ s) l a w →
      IStep nn P ops Q φ W i o s l a w)
    (hfin : ∀ s a w, W s (fun j => decide (j < ops.length)) w → FrOk ops a0 (φ s) (fun j => decide (j < ops.length)) a w → Q .normal a w) :
    (Code.region id ops.toArray true).wpIn Fence.wide nn P Q a0 w0 := by
  simp only [regionOkG, Bool.and_eq_true, decide_eq_true_eq] at hok
  obtain ⟨⟨hnd, hltB⟩, hgB⟩ := hok
  have hlt : ∀ (o : Oper) (d : Nat), o ∈ ops → o.dst = some d → d < a0.tmps.size := fun o d ho hd => by
    have := List.all_eq_true.1 hltB d (List.mem_filterMap.2 ⟨o, ho, hd⟩)
    simpa using this
  have hg : ∀ i o, ops[i]? = some o → True ∧ ∀ e ∈ o.after.toList, Region.binds .any e = true → e.on < i := fun i o ho => by
    have := List.all_eq_true.1 hgB (o, i) (List.mem_zipIdx_iff_getElem?.2 ho)
    simp only at this
    refine ⟨trivial, fun e he hb => ?_⟩
    have h2 := List.all_eq_true.1 this e he
    simpa [hb] using h2
  have hsz : ops.toArray.size = ops.length := by simp
  -- all have been carried out where none may come up
  have hall : ∀ listed : Array Bool, listed.size = ops.length → Region.ready .any ops.toArray listed = [] → ∀ n, ∀ j, j < n → j < ops.length → listed.getD j false = true := by
    intro listed hls hr n
    induction n with
    | zero => intro j hj; omega
    | succ n ih =>
      intro j hj hjl
      by_cases hjn : j < n
      · exact ih j hjn hjl
      · obtain rfl : j = n := by omega
        cases hl : listed.getD j false with
        | true => rfl
        | false =>
          exfalso
          have hl' : listed.getD j true = false ∨ listed.size ≤ j := by
            rcases Nat.lt_or_ge j listed.size with h | h
            · left; simp [h] at hl ⊢; exact hl
            · exact .inr h
          have ho : ops[j]? = some ops[j] := List.getElem?_eq_getElem hjl
          rcases hl' with hl' | hl'
          · have : j ∈ Region.ready .any ops.toArray listed := mem_ready.2 ⟨hl', ops[j], by simp [hjl], fun e he hb => ih e.on ((hg j _ ho).2 e (by simpa using he) hb) (by have := (hg j _ ho).2 e (by simpa using he) hb; omega)⟩
            rw [hr] at this
            cases this
          · omega
  have main : ∀ fuel (listed : Array Bool) (a : Act) (w : World) (s : σ), listed.size = ops.length → cntFalse (fun j => listed.getD j false) ops.length ≤ fuel → W s (fun j => listed.getD j false) w → FrOk ops a0 (φ s) (fun j => listed.getD j false) a w →
      wpAnyIn Fence.wide nn P .any ops.toArray Q fuel listed a w := by
    intro fuel
    have hend : ∀ (listed : Array Bool) (a : Act) (w : World) (s : σ), listed.size = ops.length → (∀ j, j < ops.length → listed.getD j false = true) → W s (fun j => listed.getD j false) w → FrOk ops a0 (φ s) (fun j => listed.getD j false) a w → Q .normal a w := by
      intro listed a w s hs hl hW hF
      have he : (fun j => listed.getD j false) = fun j => decide (j < ops.length) := by
        funext j
        by_cases hj : j < ops.length
        · rw [hl j hj]; simp [hj]
        · simp [hj, hs]
      rw [he] at hW hF
      exact hfin s a w hW hF
    induction fuel with
    | zero =>
      intro listed a w s hs hc hW hF
      have hl := cntFalse_zero ops.length (Nat.le_zero.1 hc)
      refine ⟨?_, hend listed a w s hs hl hW hF⟩
      apply List.eq_nil_iff_forall_not_mem.2
      intro i hi
      obtain ⟨h1, o, ho, _⟩ := mem_ready.1 hi
      have hil : i < ops.length := by simpa using (Array.getElem?_eq_some_iff.1 ho).1
      have h2 := hl i hil
      have : i < listed.size := by omega
      simp [this] at h1 h2
      rw [h2] at h1
      cases h1
    | succ fuel ih =>
      intro listed a w s hs hc hW hF
      refine ⟨fun hr => hend listed a w s hs (fun j hj => hall listed hs hr (j + 1) j (by omega) hj) hW hF, fun i hi => ?_⟩
      obtain ⟨h1, o, ho, hdep⟩ := mem_ready.1 hi
      have hil : i < ops.length := by simpa using (Array.getElem?_eq_some_iff.1 ho).1
      have ho' : ops[i]? = some o := by rw [← ho]; simp
      have hli : i < listed.size := by omega
      have hl0 : listed.getD i false = false := by simp [hli] at h1 ⊢; exact h1
      have hst := hstep i o ho' s (fun j => listed.getD j false) a w hl0 (fun e he hb => hdep e (by simpa using he) hb) hW hF
      unfold wpOpIn
      rw [ho]
      have key : ∀ a' w', (∃ s' v, a' = a.put o.dst v ∧ W s' (upd (fun j => listed.getD j false) i) w' ∧ (o.dst.isSome = true → φ s' i v w') ∧ (∀ j u, (fun j => listed.getD j false) j = true → φ s j u w → φ s' j u w')) → wpAnyIn Fence.wide nn P .any ops.toArray Q fuel (listed.setIfInBounds i true) a' w' := ?_
      · unfold IStep at hst
        simp only
        by_cases hw : Region.wanted o (yielded ops.toArray a.tmps) = true
        · rw [if_pos hw] at hst ⊢
          exact Oper.wpIn_mono key hst
        · rw [if_neg hw] at hst ⊢
          exact ⟨fun _ _ => trivial, key _ _ hst⟩
      rintro a' w' ⟨s', v, rfl, hW', hφ, hstab⟩
      have hupd : (fun j => (listed.setIfInBounds i true).getD j false) = upd (fun j => listed.getD j false) i := by
        funext j
        simp only [upd]
        split
        · rename_i hj; subst hj; simp [hli]
        · rename_i hj; rw [getD_set_ne false (Ne.symm hj)]
      have hcl : ∀ j o', upd (fun j => listed.getD j false) i j = true → ops[j]? = some o' → ∀ e ∈ o'.after.toList, Region.binds .any e = true → upd (fun j => listed.getD j false) i e.on = true := by
        intro j o' hj ho'' e he hb
        have hold : (listed.getD e.on false) = true → upd (fun j => listed.getD j false) i e.on = true := fun h => by simp only [upd]; split <;> first | rfl | exact h
        by_cases hji : j = i
        · subst hji
          rw [ho'] at ho''
          injection ho'' with e1
          subst e1
          exact hold (hdep e (by simpa using he) hb)
        · have hj' : listed.getD j false = true := by simpa [upd, hji] using hj
          exact hold (hF.closed j o' hj' ho'' e he hb)
      have hF' : FrOk ops a0 (φ s') (upd (fun j => listed.getD j false) i) (a.put o.dst v) w' := by
        cases hd : o.dst with
        | none =>
          refine ⟨hF.defers, hF.size, fun t ht => hF.other t (fun j o' hj hd' => by have := ht j o' hj hd'; simp only [upd] at this; split at this <;> first | exact this | cases this), fun j o' d hj ho'' hd' => ?_, hcl⟩
          have hji : j ≠ i := by
            rintro rfl
            rw [ho'] at ho''
            injection ho'' with e
            rw [← e, hd] at hd'
            cases hd'
          have hj' : listed.getD j false = true := by simpa [upd, hji] using hj
          obtain ⟨u, hu, hp⟩ := hF.vals j o' d hj' ho'' hd'
          exact ⟨u, hu, hstab j u hj' hp⟩
        | some d0 =>
          refine ⟨hF.defers, by simp [Act.put, hF.size], fun t ht => ?_, fun j o' d hj ho'' hd' => ?_, hcl⟩
          · have : d0 ≠ t := fun e => by
              have := ht i o ho' (by rw [hd, e])
              simp [upd] at this
            simp only [Act.put]
            rw [Array.getElem?_setIfInBounds_ne this]
            exact hF.other t (fun j o' hj hd' => by have := ht j o' hj hd'; simp only [upd] at this; split at this <;> first | exact this | cases this)
          · by_cases hji : j = i
            · subst hji
              rw [ho'] at ho''
              injection ho'' with e
              subst e
              rw [hd] at hd'
              injection hd' with e
              subst e
              have hlt' : d0 < a.tmps.size := by rw [hF.size]; exact hlt o d0 (List.mem_of_getElem? ho') hd
              exact ⟨v, by simp [Act.put, hlt'], hφ (by rw [hd]; rfl)⟩
            · have hj' : listed.getD j false = true := by simpa [upd, hji] using hj
              obtain ⟨u, hu, hp⟩ := hF.vals j o' d hj' ho'' hd'
              have hne : d0 ≠ d := by
                rintro rfl
                exact hji (nodup_dst hnd ho'' ho' hd' hd)
              refine ⟨u, ?_, hstab j u hj' hp⟩
              simp only [Act.put]
              rw [Array.getElem?_setIfInBounds_ne hne]
              exact hu
      refine ih _ _ _ s' (by simp [hs]) ?_ (by rw [hupd]; exact hW') (by rw [hupd]; exact hF')
      rw [hupd]
      have := cntFalse_upd (f := fun j => listed.getD j false) hl0 ops.length hil
      omega
  refine wpIn_region_any hm ?_
  rw [hsz]
  have hf : (fun j => (Array.replicate ops.length false).getD j false) = fun _ => false := by
    funext j
    rcases Nat.lt_or_ge j ops.length with h | h <;> simp [h]
  refine main ops.length _ a0 w0.drew s0 (by simp) (cntFalse_le _ _) (by rw [hf]; exact h0) ?_
  exact ⟨rfl, rfl, fun _ _ => rfl, fun j o d hj => (by rw [congrFun hf j] at hj; cases hj), fun j o hj => (by rw [congrFun hf j] at hj; cases hj)⟩

def StepOkI {σ : Type} (nn : Nat) (P : Program) (ops : List Oper) (Q : Exit → Act → World → Prop) (a0 : Act) (φ : σ → Nat → Value → World → Prop) (W : σ → (Nat → Bool) → World → Prop) (i : Nat) (o : Oper) : Prop :=
  ∀ s l a w, l i = false → (∀ e ∈ o.after.toList, Region.binds .any e = true → l e.on = true) → W s l w → FrOk ops a0 (φ s) l a w → IStep nn P ops Q φ W i o s l a w
theorem wpIn_region_stepsI {σ : Type} {nn : Nat} {P : Program} {ops : List Oper} {Q : Exit → Act → World → Prop} {id : Nat} {a0 : Act} {w0 : World} (hm : P.follows .mixedOrders = true)
    (hok : regionOkG ops a0.tmps.size = true)
    (φ : σ → Nat → Value → World → Prop) (W : σ → (Nat → Bool) → World → Prop) (s0 : σ) (h0 : W s0 (fun _ => false) w0.drew)
    (hstep : AllFrom (StepOkI nn P ops Q a0 φ W) 0 ops)
    (hfin : ∀ s a w, W s (fun j => decide (j < ops.length)) w → FrOk ops a0 (φ s) (fun j => decide (j < ops.length)) a w → Q .normal a w) :
    (Code.region id ops.toArray true).wpIn Fence.wide nn P Q a0 w0 :=
  wpIn_region_invI hm hok φ W s0 h0 (fun i o ho => by have := allFrom_get hstep i o ho; rwa [Nat.zero_add] at this) hfin

/-- what one operation owes where it is carried out -/
def StepIn {σ : Type} (nn : Nat) (P : Program) (ops : List Oper) (Q : Exit → Act → World → Prop) (a0 : Act) (φ : σ → Nat → Value → World → Prop) (W : σ → (Nat → Bool) → World → Prop) (i : Nat) (o : Oper) : Prop :=
  ∀ s l a w, l i = false → (∀ e ∈ o.after.toList, Region.binds .any e = true → l e.on = true) → W s l w → FrOk ops a0 (φ s) l a w →
      o.wpIn Fence.wide nn P a w (fun a' w' => ∃ s' v, a' = a.put o.dst v ∧ W s' (upd l i) w' ∧ (o.dst.isSome = true → φ s' i v w') ∧ (∀ j u, l j = true → φ s j u w → φ s' j u w')) Q
section
variable {σ : Type} {nn : Nat} {P : Program} {ops : List Oper} {Q : Exit → Act → World → Prop} {a0 : Act} {φ : σ → Nat → Value → World → Prop} {W : σ → (Nat → Bool) → World → Prop} {i : Nat} {o : Oper}
theorem stepI_plain (hg : o.guard = none) (h : StepIn nn P ops Q a0 φ W i o) : StepOkI nn P ops Q a0 φ W i o := by
  intro s l a w hl hd hW hF
  unfold IStep
  rw [if_pos (by simp [Region.wanted, hg])]
  exact h s l a w hl hd hW hF
theorem stepI_yes (h : StepIn nn P ops Q a0 φ W i o) (hw : ∀ (s : σ) (l : Nat → Bool) (a : Act) (w : World), (∀ e ∈ o.after.toList, Region.binds .any e = true → l e.on = true) → FrOk ops a0 (φ s) l a w → Region.wanted o (yielded ops.toArray a.tmps) = true) : StepOkI nn P ops Q a0 φ W i o := by
  intro s l a w hl hd hW hF
  unfold IStep
  rw [if_pos (hw s l a w hd hF)]
  exact h s l a w hl hd hW hF
theorem stepI_no (h : ∀ (s : σ) (l : Nat → Bool) (a : Act) (w : World), l i = false → W s l w → W s (upd l i) w ∧ φ s i undef w) (hw : ∀ (s : σ) (l : Nat → Bool) (a : Act) (w : World), (∀ e ∈ o.after.toList, Region.binds .any e = true → l e.on = true) → FrOk ops a0 (φ s) l a w → Region.wanted o (yielded ops.toArray a.tmps) = false) : StepOkI nn P ops Q a0 φ W i o := by
  intro s l a w hl hd hW hF
  unfold IStep
  rw [if_neg (by rw [hw s l a w hd hF]; decide)]
  obtain ⟨h1, h2⟩ := h s l a w hl hW
  exact ⟨s, undef, rfl, h1, fun _ => h2, fun _ _ _ h => h⟩
theorem stepin_pure (h : ∀ s l a w, l i = false → (∀ e ∈ o.after.toList, Region.binds .any e = true → l e.on = true) → W s l w → FrOk ops a0 (φ s) l a w →
      W s (upd l i) w ∧ ∃ v, (execOp a.eval o).run P w = .ok (.value v) w ∧ φ s i v w) : StepIn nn P ops Q a0 φ W i o := by
  intro s l a w hl hd hW hF
  obtain ⟨hW', v, hr, hp⟩ := h s l a w hl hd hW hF
  refine ⟨fun _ _ => trivial, ?_⟩
  show o.uponIn Fence.wide nn P a _ Q ((execOp a.eval o).run P w)
  rw [hr]
  exact ⟨s, v, rfl, hW', fun _ => hp, fun _ _ _ h => h⟩
theorem stepin_call (h : ∀ s l a w, l i = false → (∀ e ∈ o.after.toList, Region.binds .any e = true → l e.on = true) → W s l w → FrOk ops a0 (φ s) l a w →
      ∃ f args, (execOp a.eval o).run P w = .ok (.enter f args) w ∧ Calls P f args w fun e w' => ∃ v s', e = .returned v ∧ W s' (upd l i) w' ∧ φ s' i v w' ∧ (∀ j u, l j = true → φ s j u w → φ s' j u w')) : StepIn nn P ops Q a0 φ W i o := by
  intro s l a w hl hd hW hF
  obtain ⟨f, args, hr, hc⟩ := h s l a w hl hd hW hF
  refine ⟨fun _ _ => trivial, ?_⟩
  show o.uponIn Fence.wide nn P a _ Q ((execOp a.eval o).run P w)
  rw [hr, Oper.uponIn_enter]
  refine ⟨(fun h => by cases h), (callsIn_wide.2 hc).mono ?_⟩
  rintro e w' ⟨v, s', rfl, hW', hp, hst⟩
  exact ⟨s', v, rfl, hW', fun _ => hp, hst⟩
theorem stepin_round (h : ∀ s l a w, l i = false → (∀ e ∈ o.after.toList, Region.binds .any e = true → l e.on = true) → W s l w → FrOk ops a0 (φ s) l a w →
      ∃ k f tmps assign body, (execOp a.eval o).run P w = .ok (.round k f tmps assign body) w ∧ RoundIn Fence.wide (nn - 1) P k f tmps assign body w fun e w' => ∃ v s', e = .returned v ∧ W s' (upd l i) w' ∧ φ s' i v w' ∧ (∀ j u, l j = true → φ s j u w → φ s' j u w')) : StepIn nn P ops Q a0 φ W i o := by
  intro s l a w hl hd hW hF
  obtain ⟨k, f, tmps, assign, body, hr, hc⟩ := h s l a w hl hd hW hF
  refine ⟨fun _ _ => trivial, ?_⟩
  show o.uponIn Fence.wide nn P a _ Q ((execOp a.eval o).run P w)
  rw [hr, Oper.uponIn_round]
  refine ⟨(fun h => by cases h), hc.mono ?_⟩
  rintro e w' ⟨v, s', rfl, hW', hp, hst⟩
  exact ⟨s', v, rfl, hW', fun _ => hp, hst⟩
end
end Go.Proofs.YtaokegobilphnaaGreatDoor
/- log.lines: the iterator over a text's lines -/
namespace Go.Proofs.YtaokegobilphnaaGreatDoor
open Go Go.RowKit Go.Shelf Go.Proofs Sp Lg
attribute [local go_sem] Oper.semAt_some
set_option linter.unusedVariables false
set_option linter.unusedSimpArgs false

def strLen (tb : Nat) (w : World) : Nat := match w.cell? ⟨tb, 0, none⟩ with | some (.string s) => s.size | _ => 0
theorem strLen_at {tb : Nat} {w : World} {s : ByteArray} (h : w.cell? ⟨tb, 0, none⟩ = some (.string s)) : strLen tb w = s.size := by unfold strLen; rw [h]
/-- a line that is not too long -/
abbrev Ln := { l : By // l.length ≤ 1000000 }
def lnB (pre : List Ln) : List By := pre.map (·.1)
set_option maxRecDepth 100000 in
set_option maxHeartbeats 4000000 in
theorem lines1_seq (tb : Nat) (T : By) (w : World) (ht : w.heap[tb]? = some (.cells #[.string (bs T)] 9 (0, 0))) (hT : T.length ≤ 1000000) (N n : Nat) (hN : (lines T).length ≤ N) (hn : 1 ≤ n) :
    SeqT Fence.wide n Tryz.prog 123 #[.pointer (some ⟨tb, 0, none⟩)] (fun l : Ln => .string (bs l.1)) tb (fun xs => lnB xs = lines T) N w := by
  intro l J W hW htb hJ hY h0
  have htW := htb.trans ht
  have HY := Lib.hid (And.intro hJ (And.intro hY (And.intro h0 (And.intro htW hN))))
  clear hJ hY h0 htW htb ht hW hN
  refine callsIn_of_wp Tryz.func123 rfl trivial ?_ rfl
  simp only [Tryz.ntmps123, List.size_toArray, List.length_cons, List.length_nil, Nat.reduceAdd, Nat.reduceSub, Array.replicate_succ, Array.replicate_zero, List.push_toArray, List.append_toArray, List.nil_append, List.cons_append]
  gi_wp2
  gi_loopw [3] (fun e wr => ∃ (pre : List Ln) (T1 : By), J pre wr ∧ wr.heap[tb]? = some (.cells #[.string (bs T1)] 9 (0, 0)) ∧ lines T = lnB pre ++ lines T1 ∧ T1.length ≤ 1000000) (fun e wr => strLen tb wr)
  case atStart => exact ⟨[], T, HY.out.2.2.1, HY.out.2.2.2.1, rfl, hT⟩
  case round =>
    obtain ⟨pre, T1, hJp, htr, hl, hT1⟩ := hrel
    have t0 : wr.cell? ⟨tb, 0, none⟩ = some (.string (bs T1)) := (cell_of_heap htr 0).trans rfl
    have hms := strLen_at t0
    obtain ⟨S, hS⟩ : ∃ S, S = bs T1 := ⟨_, rfl⟩
    have hSl : S.size = T1.length := by rw [hS, bs_size]
    have kx := Tryz.strings_IndexByte S 10 wr
    rw [← hS] at t0 hms
    obtain ⟨ix, hix⟩ : ∃ ix, ix = Lib.indexByte T1 10 := ⟨_, rfl⟩
    have hST : S.data.toList = T1 := by rw [hS]
    have zt := heap_lt htr
    have ft := frozen_of_heap htr 0
    by_cases h0 : 0 < S.size
    · have hne : T1 ≠ [] := fun e => by rw [e, List.length_nil] at hSl; omega
      have kx2 : Calls Tryz.prog 122 #[.string S, .int .u8 10] wr fun e w' => e = .returned (.int .i64 ix) ∧ w' = wr := by
        have := kx
        rw [hST] at this
        rw [hix]; exact this
      obtain ⟨k, hk⟩ : ∃ k, k = lineEnd T1 := ⟨_, rfl⟩
      have hk1 : 1 ≤ k := by rw [hk]; exact lineEnd_pos hne
      have hk2 : k ≤ S.size := by rw [hSl, hk]; exact lineEnd_le T1
      have hcut : lines T1 = T1.take k :: lines (T1.drop k) := by rw [hk]; exact lines_cut hne
      have hp1 : S.extract 0 k = bs (T1.take k) := by rw [hS, bs_ext]; simp
      have hp2 : S.extract k S.size = bs (T1.drop k) := by
        rw [hS, bs_ext, bs_size, List.take_of_length_le (by rw [List.length_drop]; exact Nat.le_refl _)]
      obtain ⟨x, hx⟩ : ∃ x : Ln, x.1 = T1.take k := ⟨⟨T1.take k, by rw [List.length_take]; omega⟩, rfl⟩
      obtain ⟨fn, tmps, assign, body, hy, hR⟩ := HY.out.2.1 pre x wr hJp (by
        have h1 := congrArg List.length hl
        rw [hcut, List.length_append, List.length_cons, show (lnB pre).length = pre.length from by simp [lnB]] at h1
        have := HY.out.2.2.2.2
        omega)
      rw [hx, ← hp1] at hy
      clear hp1
      by_cases hm : ix = -1
      · have hkS : k = S.size := by rw [hk, hSl]; unfold lineEnd; rw [← hix, if_pos hm]
        subst hm
        clear hk
        subst hkS
        rw [show S.extract 0 S.size = S from by simp] at hy
        have HQ := Lib.hid (And.intro hR (And.intro hcut (And.intro hl (And.intro htr (And.intro hp2 (And.intro kx2 (And.intro hS (And.intro hms (And.intro hSl hx)))))))))
        clear hR hcut hl htr hp2 kx2 hS hms kx hJp hix hST hSl hx
        gi_wp2_with (refine ⟨trivial, ?_⟩; gi_at_call 122; refine (callsIn_wide.2 HQ.out.2.2.2.2.2.1).mono ?_; rintro e w2 ⟨rfl, rfl⟩)
        refine HQ.out.1.mono ?_
        rintro e W3 ⟨rfl, hJ3, hs3, ht3⟩
        have ht3' := ht3.trans HQ.out.2.2.2.1
        rw [← HQ.out.2.2.2.2.2.2.1] at ht3'
        have t3 : W3.cell? ⟨tb, 0, none⟩ = some (.string S) := (cell_of_heap ht3' 0).trans rfl
        have f3 := frozen_of_heap ht3' 0
        have z3 := heap_lt ht3'
        have H3 := Lib.hid (And.intro hJ3 ht3')
        clear hJ3 hs3 ht3 ht3' hy t0 ft
        gi_wp2
        have hh : (W3.setCell ⟨tb, 0, none⟩ (.string (ByteArray.empty))).heap[tb]? = some (.cells #[.string (bs (T1.drop S.size))] 9 (0, 0)) := by
          rw [← HQ.out.2.2.2.2.1, show S.extract S.size S.size = ByteArray.empty from by simp]
          exact heap_set H3.out.2 0 _
        go_roundw
        case rel => exact ⟨_, T1.drop S.size, HY.out.1 _ _ _ H3.out.1 ((Keep.refl _ _).setCell (.inl (by simp)) _), hh, by rw [HQ.out.2.2.1, HQ.out.2.1, ← HQ.out.2.2.2.2.2.2.2.2.2]; simp [lnB], by rw [List.length_drop]; omega⟩
        case measure =>
          rw [strLen_at ((cell_of_heap hh 0).trans rfl), HQ.out.2.2.2.2.2.2.2.1, bs_size, List.length_drop, HQ.out.2.2.2.2.2.2.2.2.1]
          have := HQ.out.2.2.2.2.2.2.2.2.1
          omega
      · obtain ⟨j, hj⟩ : ∃ j : Nat, ix = j := ⟨ix.toNat, by have := Lib.indexByte_ge T1 10; omega⟩
        have hkj : k = j + 1 := by rw [hk]; unfold lineEnd; rw [← hix, if_neg hm, hj]; simp
        subst hj
        clear hk hm
        subst hkj
        have hjb : j ≤ 1000000 := by omega
        have hj0 : ((j : Int) + 1 == 0) = false := by rw [beq_eq_false_iff_ne]; omega
        have HQ := Lib.hid (And.intro hR (And.intro hcut (And.intro hl (And.intro htr (And.intro hp2 (And.intro kx2 (And.intro hS (And.intro hms (And.intro hSl hx)))))))))
        clear hR hcut hl htr hp2 kx2 hS hms kx hJp hix hST hSl hx
        gi_wp2_with (refine ⟨trivial, ?_⟩; gi_at_call 122; refine (callsIn_wide.2 HQ.out.2.2.2.2.2.1).mono ?_; rintro e w2 ⟨rfl, rfl⟩)
        refine HQ.out.1.mono ?_
        rintro e W3 ⟨rfl, hJ3, hs3, ht3⟩
        have ht3' := ht3.trans HQ.out.2.2.2.1
        rw [← HQ.out.2.2.2.2.2.2.1] at ht3'
        have t3 : W3.cell? ⟨tb, 0, none⟩ = some (.string S) := (cell_of_heap ht3' 0).trans rfl
        have f3 := frozen_of_heap ht3' 0
        have z3 := heap_lt ht3'
        have H3 := Lib.hid (And.intro hJ3 ht3')
        clear hJ3 hs3 ht3 ht3' hy t0 ft
        gi_wp2
        have hh : (W3.setCell ⟨tb, 0, none⟩ (.string (S.extract (j + 1) S.size))).heap[tb]? = some (.cells #[.string (bs (T1.drop (j + 1)))] 9 (0, 0)) := by
          rw [← HQ.out.2.2.2.2.1]
          exact heap_set H3.out.2 0 _
        go_roundw
        case rel => exact ⟨_, T1.drop (j + 1), HY.out.1 _ _ _ H3.out.1 ((Keep.refl _ _).setCell (.inl (by simp)) _), hh, by rw [HQ.out.2.2.1, HQ.out.2.1, ← HQ.out.2.2.2.2.2.2.2.2.2]; simp [lnB], by rw [List.length_drop]; omega⟩
        case measure =>
          rw [strLen_at ((cell_of_heap hh 0).trans rfl), HQ.out.2.2.2.2.2.2.2.1, bs_size, List.length_drop, HQ.out.2.2.2.2.2.2.2.2.1]
          have := HQ.out.2.2.2.2.2.2.2.2.1
          omega
    · have hT1 : T1 = [] := List.eq_nil_of_length_eq_zero (by omega)
      have HQ := Lib.hid (And.intro hJp (And.intro hl hT1))
      clear hJp hl hT1 hS hST kx hix hms htr hSl
      gi_wp2
      go_end0
      exact ⟨⟨_, rfl⟩, _, by rw [HQ.out.2.1, HQ.out.2.2]; simp [lines], HQ.out.1⟩
end Go.Proofs.YtaokegobilphnaaGreatDoor
/- append of one element to a slice of the call's own, inside a fence. -/
namespace Go.Proofs.YtaokegobilphnaaGreatDoor
open Go Go.RowKit
theorem wpListIn_append_S {F : Fence} {nn : Nat} {w : World} {e : TypeId} {size : Nat} {A : Option Addr} {n c : Nat} {xs : List Value} {fp : List Nat} {P : Program} {ops : Array Oper} {rest : List Oper} {o : Oper} {a : Act} {Q : Exit → Act → World → Prop} (hgd : o.guard = none) (s x : Operand) (t : TypeId)
    (ho : o.op = .call { callee := .builtin .append, args := #[s, x], argTypes := #[t, t] })
    (i : TypeInfo) (z : Value) (bytes : Nat) (ht : P.underlying t = some (.slice e)) (hi : P.info? e = some i) (hz : i.zero = some z)
    (hsize : i.size = size) (hs0 : 0 < size) (hby : i.bytes = bytes) (hzs : z.cells.size = size) (hs : a.eval s = .slice A n c) (ad : Addr) (hx : a.eval x = .slice (some ad) 1 1)
    (ys : List Value) (hown : OwnS w e size A n c xs fp) (hys : ys.length = size) (hu : ∀ j v, ys[j]? = some v → w.cell? (ad.add j) = some v) (h1 : ∀ u ∈ ys, u.oneCell' = true)
    (hn : n + 1 ≤ 1000000000000) (hbytes : bytes ≤ 100)
    (h : ∀ g c' w', OwnS w' e size (some ⟨g, 0, none⟩) (n + 1) c' (xs ++ ys) [g] → (g ∈ fp ∨ w.heap.size = g) → g < w'.heap.size → Keep fp w w' → wpListIn F nn P ops Q rest (a.put o.dst (.slice (some ⟨g, 0, none⟩) (n + 1) c')) w') : wpListIn F nn P ops Q (o :: rest) a w := by
  refine wpListIn_plain hgd fun K hK => ?_
  obtain ⟨g, c', w', hr, h2, h3, h4, h5⟩ := run_append_S (P := P) t o.type i z bytes ht hi hz hsize hs0 hby hzs hown ad hys hu h1 hn hbytes
  unfold Oper.wpIn
  refine ⟨?_, ?_⟩
  · simp [Oper.about, ho, resolve, Target.leads, Sem.run_pure]
  · rw [Oper.semAt_plain F _ _ (by rw [ho]; intro c hc; cases hc)]
    simp [execOp, ho, resolve, invoke, builtin, hs, hx, hr, Result.andThen]
    exact hK _ _ (h g c' w' h2 h3 h4 h5)
end Go.Proofs.YtaokegobilphnaaGreatDoor
/- log.lines, log.Damaged -/
namespace Go.Proofs.YtaokegobilphnaaGreatDoor
open Go Go.RowKit Go.Shelf Go.Proofs Sp Lg
attribute [local go_sem] Oper.semAt_some
set_option linter.unusedVariables false
set_option linter.unusedSimpArgs false

theorem Env.below {w w' : World} (h : Env w) (b : Below w.heap.size w w') : Env w' := by
  obtain ⟨⟨m, hm⟩, ht⟩ := h
  exact ⟨⟨m, (b.cell (p := ⟨0, 0, none⟩) (World.block_lt_of_cell? _ _ hm)).trans hm⟩, Lib.tabBelow_of_tabIs ht w' b⟩
def It.plain : It → Bool
  | .blk _ o => o.isCells
  | .own _ _ _ _ _ _ _ => true
  | _ => false
theorem Own.sim {D B tb : Nat} {W0 A C : World} {L : List It} (h : Own D W0 L A) (hs : Sim B tb A C) (hD : D ≤ tb) (hB : D ≤ B) (ht : ∀ i ∈ L, tb ∉ i.fp) (hL : ∀ i ∈ L, i.plain = true) : Own D W0 L C := by
  refine ⟨⟨by rw [← hs.os]; exact h.bel.os, by rw [← hs.tape]; exact h.bel.tape, by rw [← hs.output]; exact h.bel.output, Nat.le_trans h.bel.size hs.size, fun k hk => ?_⟩, Nat.le_trans h.lo hs.size, fun a i hi => ?_, h.dis⟩
  · have hkA : k < A.heap.size := by have := h.lo; omega
    have e := hs.same k _ (Array.getElem?_eq_getElem hkA) (by omega) (fun h => absurd h (by omega))
    rw [e, ← Array.getElem?_eq_getElem hkA]
    exact h.bel.block k hk
  · have hm := List.mem_of_getElem? hi
    obtain ⟨h1, h2⟩ := h.at_ a i hi
    refine ⟨?_, h2⟩
    have hp := hL i hm
    have htb := ht i hm
    cases i with
    | blk b o => exact hs.same b o h1 (fun e => htb (by simp [It.fp, e])) (fun _ => hp)
    | own e sz A' n c xs q =>
      obtain ⟨g1, g2⟩ := h1
      refine ⟨g1, g2.imp id ?_⟩
      rintro ⟨g, cur, e1, e2, e3, e4⟩
      exact ⟨g, cur, e1, e2, hs.same g _ e3 (fun e => htb (by simp [It.fp, e2, e])) (fun _ => rfl), e4⟩
    | nx _ _ => cases hp
    | any _ => cases hp
    | gen _ _ => cases hp
theorem keepsOthers_of {S : List Nat} {W W' : World} (h : Keep S W W') (hc : ∀ b ∈ S, ∀ o, W.heap[b]? = some o → o.isCells = true) : KeepsOthers W W' :=
  ⟨h.size, fun k o hk ho => by
    by_cases hm : k ∈ S
    · rw [hc k hm o hk] at ho; cases ho
    · exact (h.block k (Array.getElem?_eq_some_iff.1 hk).1 hm).trans hk⟩
theorem dmN_app (pre r : List By) : ∀ k, k ≤ pre.length → dmN (pre ++ r) k = dmN pre k
  | 0, _ => rfl
  | k + 1, hk => by
    have e : (pre ++ r).getD k [] = pre.getD k [] := by
      rw [List.getD_eq_getElem?_getD, List.getD_eq_getElem?_getD, List.getElem?_append_left (by omega)]
    rw [dmN, dmN, dmN_app pre r k (by omega), e]
def dmL (pre : List By) : List Int := dmN pre pre.length
theorem dmL_snoc (pre : List By) (x : By) : dmL (pre ++ [x]) = if inside x = true then dmL pre else dmL pre ++ [(pre.length : Int) + 1] := by
  unfold dmL
  rw [List.length_append, List.length_singleton, dmN, dmN_app _ _ _ (Nat.le_refl _)]
  simp
set_option maxRecDepth 100000 in
set_option maxHeartbeats 4000000 in
theorem gLines_any (s : ByteArray) (w : World) :
    Calls Tryz.prog 84 #[.string s] w fun e w' => e = .returned (.func (.func 123) #[] #[.pointer (some ⟨w.heap.size, 0, none⟩)]) ∧ w' = w.alloc (.cells #[.string s] 9) := by
  have hmf : ∀ (fn : Fn) (first cap : Array Value) (w : World), (Instr.makeFunc fn first cap).run Tryz.prog w = .ok (.func fn first cap) w := fun _ _ _ _ => rfl
  go_enter Tryz.func84, Tryz.ntmps84
  go_wp2_with fail
  go_ret
  exact ⟨rfl, rfl⟩
set_option maxRecDepth 100000 in
set_option maxHeartbeats 4000000 in
theorem gDamaged_any (s : ByteArray) (w : World) (hs : s.size ≤ 1000000) (E : Env w) :
    Calls Tryz.prog 28 #[.string s] w (LgDmPost w s.data.toList) := by
  have hlen : s.data.toList.length = s.size := Array.length_toList
  obtain ⟨T, hT⟩ : ∃ T, T = s.data.toList := ⟨_, rfl⟩
  obtain ⟨L, hL⟩ : ∃ L, L = lines T := ⟨_, rfl⟩
  have hLl : L.length ≤ 1000000 := by rw [hL]; exact Nat.le_trans (lines_few _) (by rw [hT]; omega)
  have hLs : ∀ l ∈ L, l.length ≤ 1000000 := fun l hl => by rw [hL] at hl; have := (lines_len l hl).2; rw [hT] at this; omega
  have hE : lgDmE T = if 131072 < s.size then 2 else 0 := by unfold lgDmE; rw [hT, hlen]
  have hV : lgDmV T = if 131072 < s.size then [] else dmL L := by unfold lgDmV dmL; rw [hT, hlen, hL, hT]
  have hsb : s = bs T := by rw [hT, bs_eta]
  have hTl : T.length ≤ 1000000 := by rw [hT]; omega
  rw [← hT]
  have H := Lib.hid (And.intro hLs (And.intro hE (And.intro hV (And.intro hL (And.intro hsb E)))))
  clear hLs hE hV hlen hL hT hsb E
  by_cases h1 : 131072 < s.size
  · go_enter Tryz.func28, Tryz.ntmps28
    go_wp2_with fail
    go_ret2
    have e1 : lgDmE T = 2 := by rw [H.out.2.1, if_pos h1]
    have e2 : lgDmV T = [] := by rw [H.out.2.2.1, if_pos h1]
    exact ⟨none, 0, by rw [e1, e2]; rfl, by rw [e2]; exact ⟨rfl, fun h => absurd h (by simp)⟩, by rw [e2]; simp, Below.refl _ _⟩
  refine (callsIn_wide (n := 9)).1 ?_
  refine callsIn_of_wp_marks Tryz.func28 rfl trivial ?_ rfl
  simp only [Tryz.ntmps28, List.size_toArray, List.length_cons, List.length_nil, Nat.reduceAdd, Nat.reduceSub, Array.replicate_succ, Array.replicate_zero, List.push_toArray, List.append_toArray, List.nil_append, List.cons_append]
  obtain ⟨W1, hW1⟩ : ∃ W, W = (w.alloc (.cells #[.slice none 0 0] 24)).alloc (.cells #[.int .i64 0] 3) := ⟨_, rfl⟩
  obtain ⟨ob, hob⟩ : ∃ b, b = w.heap.size := ⟨_, rfl⟩
  obtain ⟨nb, hnb⟩ : ∃ b, b = ob + 1 := ⟨_, rfl⟩
  have O1 : Own w.heap.size w [.blk ob (.cells #[.slice none 0 0] 24 (0, 0)), .blk nb (.cells #[.int .i64 0] 3 (0, 0)), .own 3 1 none 0 0 [] []] W1 := by
    have h := ((Own.start w).alloc (.cells #[.slice none 0 0] 24)).alloc (.cells #[.int .i64 0] 3)
    rw [World.size_alloc] at h
    have h2 := h.new (i := .own 3 1 none 0 0 [] []) (Below.refl _ _) (OwnS.nil _ _ _) (by simp [It.fp])
    rw [hW1, hnb, hob]
    simpa using h2
  have hz1 : W1.heap.size = ob + 2 := by rw [hW1, hob]; simp
  have HO := Lib.hid (And.intro O1 (And.intro hz1 (And.intro hob hnb)))
  gi_upto_region 5 with fail
  rw [← hW1, ← hob, ← hnb]
  clear hW1 hob hnb O1 hz1
  gi_wp2_with (refine ⟨trivial, ?_⟩; gi_at_call 84; refine (callsIn_wide.2 (gLines_any s W1)).mono ?_; rintro e w2 ⟨rfl, hw2⟩; have HW2 := Lib.hid hw2; clear hw2)
  obtain ⟨tb, htb⟩ : ∃ b, b = W1.heap.size := ⟨_, rfl⟩
  rw [← htb]
  have ht2 : w2.heap[tb]? = some (.cells #[.string (bs T)] 9 (0, 0)) := by rw [HW2.out, htb, ← H.out.2.2.2.2.1]; exact heap_alloc_new _ _
  have hb2 : Below W1.heap.size W1 w2 := by rw [HW2.out]; exact (Below.refl _ _).alloc (Nat.le_refl _) _
  have hz2 : w2.heap.size = tb + 1 := by rw [HW2.out, htb]; simp
  have O2 := HO.out.1.below hb2
  have hne : ob ≠ tb ∧ nb ≠ tb ∧ w.heap.size ≤ tb ∧ ob ≠ nb := by have := HO.out.2.1; have := HO.out.2.2.1; have := HO.out.2.2.2; omega
  have hLl2 : (lines T).length ≤ 1000000 := by rw [← H.out.2.2.2.1]; exact hLl
  have HT := Lib.hid htb
  clear htb
  refine range_tb rfl (by omega) (gf := 123) (lb := #[.pointer (some ⟨tb, 0, none⟩)]) rfl trivial (enters_of Tryz.func123 (by kernel_rfl) rfl) (lines1_seq tb T w2 ht2 hTl 1000000 _ hLl2 (by omega)) (Below.refl _ _) rfl (by omega) rfl
    (fun pre W => ∃ (B : Option Addr) (N d : Nat) (q : List Nat), Own w.heap.size w [.blk ob (.cells #[.slice B N d] 24 (0, 0)), .blk nb (.cells #[.int .i64 pre.length] 3 (0, 0)), .own 3 1 B N d (ints (dmL (lnB pre))) q] W ∧ tb ∉ q ∧ N = (dmL (lnB pre)).length)
    ?inv ⟨none, 0, 0, [], O2, by simp, rfl⟩ (fun x => { tmps := #[.string s, undef, .slice none 0 0, .int .i64 0, .pointer (some ⟨ob, 0, none⟩), .pointer (some ⟨nb, 0, none⟩), .string (bs x.1), undef, undef, .string s, .int .i64 s.size, .bool (decide ((131072 : Int) < (s.size : Int))), .string s, .func (.func 123) #[] #[.pointer (some ⟨tb, 0, none⟩)], .string (bs x.1), undef, undef, undef, undef, undef, undef, undef, undef, undef, undef, undef, undef, undef, undef], defers := [] }) ?assign ?body ?done
  case inv =>
    rintro pre A C ⟨B, N, d, q, hO, hq, hN⟩ hs
    exact ⟨B, N, d, q, hO.sim hs hne.2.2.1 (by omega) (by intro i hi; simp only [List.mem_cons, List.not_mem_nil, or_false] at hi; rcases hi with rfl | rfl | rfl; exact (by simp [It.fp]; exact fun e => hne.1 e.symm); exact (by simp [It.fp]; exact fun e => hne.2.1 e.symm); exact hq) (by intro i hi; simp only [List.mem_cons, List.not_mem_nil, or_false] at hi; rcases hi with rfl | rfl | rfl <;> rfl), hq, hN⟩
  case assign =>
    intro l x W K hK
    gi_wp2
    exact hK
  case body =>
    rintro l pre x W ⟨B, N, d, q, hO, hq, hN⟩ hlen hlt
    obtain ⟨iI, hI0, hI1, hI2, hI3⟩ := info_parts infoLgI
    have hpl : pre.length ≤ 1000000 := by omega
    have hNl : N ≤ 1000000 := by
      rw [hN]; unfold dmL
      have := dmN_len (lnB pre) (lnB pre).length
      have e : (lnB pre).length = pre.length := List.length_map ..
      omega
    have ho := hO.heap 0 rfl
    have hn := hO.heap 1 rfl
    have a0 := (cell_of_heap ho 0).trans rfl
    have b0 := (cell_of_heap hn 0).trans rfl
    have a2 := frozen_of_heap ho 0
    have b2 := frozen_of_heap hn 0
    have zo := heap_lt ho
    have zn := heap_lt hn
    have O3 := hO.set 1 (o' := .cells #[.int .i64 (pre.length + 1)] 3 (0, 0)) rfl ((Keep.refl [nb] W).setCell (p := ⟨nb, 0, none⟩) (.inl (by simp)) (.int .i64 (pre.length + 1))) (heap_set hn 0 _)
    have kk := gContent_any (bs x.1) (W.setCell ⟨nb, 0, none⟩ (.int .i64 (pre.length + 1))) (by rw [bs_size]; exact x.2) (H.out.2.2.2.2.2.below O3.bel)
    have HLT := Lib.hid hlt
    clear hlt
    have edx : (bs x.1).data.toList = x.1 := rfl
    rw [edx] at kk
    obtain ⟨cv, hcv⟩ : ∃ c, c = bs (body x.1) := ⟨_, rfl⟩
    obtain ⟨bv, hbv⟩ : ∃ b, b = inside x.1 := ⟨_, rfl⟩
    rw [← hcv, ← hbv] at kk
    have HH := Lib.hid (And.intro O3 (And.intro hbv (And.intro ho (And.intro hn (And.intro hN (And.intro hq kk))))))
    clear O3 hbv hcv kk ho hn hN hO hq edx
    cases bv with
    | true =>
      gi_wp2_with (refine ⟨trivial, ?_⟩; gi_at_call 79; refine (CallsIn.inRound l (callsIn_wide.2 HH.out.2.2.2.2.2.2)).mono ?_; rintro e w3 ⟨rfl, hw3⟩; have HW3 := Lib.hid hw3; clear hw3)
      obtain ⟨O3, hbv, ho, hn, hN, hq, _⟩ := HH.out
      have hb3 := HW3.out
      have hlt := HLT.out
      have hsz := hb3.size
      simp only [World.size_setCell] at hsz
      refine ⟨?_, hsz, ?_, ?_⟩
      · exact keepsOthers_of (S := [nb]) (((Keep.refl [nb] W).setCell (p := ⟨nb, 0, none⟩) (.inl (by simp)) _).trans (Keep.of_below (S := []) hb3) (by simp)) (by simp; intro o h; rw [hn] at h; cases h; rfl)
      · exact (hb3.block tb (by simp; exact hlt)).trans (heap_set_ne (p := ⟨nb, 0, none⟩) rfl (fun e => hne.2.1 e.symm) _)
      · refine ⟨B, N, d, q, ?_, hq, ?_⟩
        · have O4 := O3.below hb3
          have e1 : dmL (lnB (pre ++ [x])) = dmL (lnB pre) := by rw [show lnB (pre ++ [x]) = lnB pre ++ [x.1] from by simp [lnB], dmL_snoc, if_pos hbv.symm]
          rw [e1]; simpa using O4
        · rw [show lnB (pre ++ [x]) = lnB pre ++ [x.1] from by simp [lnB], dmL_snoc, if_pos hbv.symm]; exact hN
    | false =>
      gi_wp2_with (first
        | (refine ⟨trivial, ?_⟩; gi_at_call 79; refine (CallsIn.inRound l (callsIn_wide.2 HH.out.2.2.2.2.2.2)).mono ?_; rintro e w3 ⟨rfl, hw3⟩; have ho3 := (hw3.block ob (by simp; exact zo)).trans (HH.out.1.heap 0 rfl); have hn3 := (hw3.block nb (by simp; exact zn)).trans (HH.out.1.heap 1 rfl); have c0 := (cell_of_heap ho3 0).trans rfl; have d0 := (cell_of_heap hn3 0).trans rfl; have c2 := frozen_of_heap ho3 0; have d2 := frozen_of_heap hn3 0; have zo3 := heap_lt ho3; have zn3 := heap_lt hn3; have HW3 := Lib.hid (And.intro hw3 (And.intro ho3 hn3)); clear hw3 ho3 hn3)
        | (gi_at_builtin
           refine wpListIn_append_S (size := 1) rfl _ _ 24 rfl iI _ 8 Tryz.underlying24 hI0 hI1 hI2 (by decide) hI3 rfl (A := B) (n := N) (c := d) (xs := ints (dmL (lnB pre))) (fp := q) (by simp [Act.eval]) ⟨w3.heap.size, 0, none⟩ (by simp [Act.eval]) [.int .i64 ((pre.length : Int) + 1)] ((((HH.out.1.below HW3.out.1).below ((Below.refl _ _).alloc (Nat.le_refl _) _)).get 2 rfl)) rfl ?_ (by intro u hu; simp at hu; rcases hu with rfl; rfl) (by omega) (by decide) ?_
           · intro u v hv
             rw [show (⟨w3.heap.size, 0, none⟩ : Addr).add u = ⟨w3.heap.size, u, none⟩ from by simp [Addr.add]; omega, World.cell?_alloc_new]
             simpa using hv
           intro g c' w10 q1 q2 q3 q4
           have SB := ((HH.out.1.below HW3.out.1).below ((Below.refl w3.heap.size w3).alloc (Nat.le_refl _) (.cells #[.int .i64 ((pre.length : Int) + 1)] 3))).upd 2 rfl (i' := It.own 3 1 (some ⟨g, 0, none⟩) (N + 1) c' (ints (dmL (lnB pre)) ++ [Value.int .i64 ((pre.length : Int) + 1)]) [g]) q4 q1 (fun u hu => by rw [List.mem_singleton.1 hu]; rcases q2 with e | e; exact .inl e; exact .inr (Nat.le_of_eq e))
           have r0 := (cell_of_heap (SB.heap 0 rfl) 0).trans rfl
           have r2 := frozen_of_heap (SB.heap 0 rfl) 0
           have zr := heap_lt (SB.heap 0 rfl)
           have HS := Lib.hid (And.intro SB (And.intro q2 q4))
           clear SB q1 q2 q3 q4))
      obtain ⟨O3, hbv, ho, hn, hN, hq, _⟩ := HH.out
      obtain ⟨SB, q2, q4⟩ := HS.out
      have hb3 := HW3.out.1
      have hlt := HLT.out
      have hsz := hb3.size
      simp only [World.size_setCell] at hsz
      have hqlt : ∀ g ∈ q, g < W.heap.size := fun g hg => by have := O3.lt 2 rfl (x := g) hg; simpa using this
      have hKa : Keep (nb :: q) W w10 := (((Keep.refl (nb :: q) W).setCell (p := ⟨nb, 0, none⟩) (.inl (by simp)) _).trans (Keep.of_below (S := []) hb3) (by simp)).alloc (.cells #[.int .i64 ((pre.length : Int) + 1)] 3) |>.trans q4 (fun g hg => .inl (by simp [hg]))
      have hKb : Keep (ob :: nb :: q) W (w10.setCell ⟨ob, 0, none⟩ (.slice (some ⟨g, 0, none⟩) (N + 1) c')) := (hKa.mono (S' := ob :: nb :: q) (fun g hg => .inl (by simp at hg ⊢; exact .inr hg))).setCell (p := ⟨ob, 0, none⟩) (.inl (by simp)) _
      have OF := SB.set 0 (o' := .cells #[.slice (some ⟨g, 0, none⟩) (N + 1) c'] 24 (0, 0)) rfl ((Keep.refl [ob] w10).setCell (p := ⟨ob, 0, none⟩) (.inl (by simp)) (.slice (some ⟨g, 0, none⟩) (N + 1) c')) (heap_set (SB.heap 0 rfl) 0 _)
      have e0 : lnB (pre ++ [x]) = lnB pre ++ [x.1] := by simp [lnB]
      have e1 : dmL (lnB (pre ++ [x])) = dmL (lnB pre) ++ [(pre.length : Int) + 1] := by rw [e0, dmL_snoc, ← hbv, show (lnB pre).length = pre.length from List.length_map ..]; rfl
      refine ⟨?_, ?_, ?_, ?_⟩
      · refine keepsOthers_of hKb ?_
        intro g hg o h
        simp only [List.mem_cons] at hg
        rcases hg with rfl | rfl | hg
        · rw [ho] at h; cases h; rfl
        · rw [hn] at h; cases h; rfl
        · have hg3 := O3.owns 2 rfl
          rcases hg3.2 with ⟨_, _, _, e⟩ | ⟨g', cur, _, e, hh, _⟩
          · rw [e] at hg; cases hg
          · rw [e] at hg
            obtain rfl : g = g' := by simpa using hg
            rw [heap_set_ne h (fun e => O3.ne 2 1 rfl rfl (by decide) (x := g) (y := nb) (by simp [It.fp, *]) (by simp [It.fp]) e)] at hh
            cases hh; rfl
      · simpa using hKb.size
      · exact hKb.block tb hlt (by simp; exact ⟨fun e => hne.1 e.symm, fun e => hne.2.1 e.symm, hq⟩)
      · refine ⟨some ⟨g, 0, none⟩, N + 1, c', [g], ?_, ?_, ?_⟩
        · rw [e1]; simpa [ints] using OF
        · simp only [List.mem_singleton]
          rcases q2 with h | h
          · rintro rfl; exact hq h
          · simp at h; omega
        · rw [e1]; simp [hN]
  case done =>
    rintro D xs W hD hxs ⟨B, N, d, q, hO, hq, hN⟩ hK
    have ho := hO.heap 0 rfl
    have a0 := (cell_of_heap ho 0).trans rfl
    have zo := heap_lt ho
    have hL2 : lnB xs = L := by rw [hxs]; exact H.out.2.2.2.1.symm
    have HA := Lib.hid (And.intro hO (And.intro hN (And.intro hK (And.intro hL2 hD))))
    have hqt := Lib.hid hq
    clear hO hN hK hq ho hxs hL2 hD
    gi_wp2
    obtain ⟨hO, hN, hK, hL2, hD⟩ := HA.out
    refine ⟨by simp, .inl ⟨_, _, rfl, run_takeDeferred hK, ?_⟩⟩
    have e1 : lgDmE T = 0 := by rw [H.out.2.1, if_neg h1]
    have e2 : lgDmV T = dmL L := by rw [H.out.2.2.1, if_neg h1]
    have hl : (dmL L).length = N := by rw [hN, hL2]
    rw [hL2] at hO
    have hO2 := hO.sim (Sim.put (B := D) (tb := tb) (l := D) (o := .deferred (some [])) (o' := .deferred none) (Nat.le_refl _) hK rfl) hne.2.2.1 (by omega) (by intro i hi; simp only [List.mem_cons, List.not_mem_nil, or_false] at hi; rcases hi with rfl | rfl | rfl; exact (by simp [It.fp]; exact fun e => hne.1 e.symm); exact (by simp [It.fp]; exact fun e => hne.2.1 e.symm); exact hqt.out) (by intro i hi; simp only [List.mem_cons, List.not_mem_nil, or_false] at hi; rcases hi with rfl | rfl | rfl <;> rfl)
    refine ⟨_, results_tmp2 rfl _ _ _, ?_⟩
    refine ⟨B, d, ?_, ?_, ?_, hO2.bel⟩
    · rw [e1, e2, hl]; rfl
    · rw [e2, hl]; exact (hO2.owns 2 rfl).rd
    · rw [e2]; unfold dmL; have := dmN_len L L.length; omega
end Go.Proofs.YtaokegobilphnaaGreatDoor
/- log.joined (printed by tools/lgl.py) -/
namespace Go.Proofs.YtaokegobilphnaaGreatDoor
open Go Go.RowKit Go.Shelf Go.Proofs Sp Lg
set_option linter.unusedVariables false
set_option linter.unusedSimpArgs false

theorem joinS_len : ∀ (l : List By) (m : Nat), (∀ f ∈ l, f.length ≤ m) → (joinS l).length ≤ l.length * (m + 1)
  | [], m, _ => by simp [joinS]
  | [x], m, h => by have := h x (by simp); simp [joinS]; omega
  | x :: y :: r, m, h => by
    have h1 := joinS_len (y :: r) m (fun f hf => h f (by simp [hf]))
    have h2 := h x (by simp)
    rw [Lg.join_cons (by simp), List.length_append, List.length_cons, List.length_cons (a := x), Nat.add_mul]
    omega
def NatL (l : List Int) : Prop := ∀ n ∈ l, 0 ≤ n ∧ n ≤ 1000000000000
theorem decI_len {n : Int} (h : 0 ≤ n ∧ n ≤ 1000000000000) : (decI n).length ≤ 13 := by
  unfold decI
  exact dec_short 12 _ (by have : (10 : Nat) ^ (12 + 1) = 10000000000000 := by decide
                           omega)
theorem itoa_int {n : Int} (h : 0 ≤ n) : Lib.itoa n = decI n := by
  obtain ⟨k, rfl⟩ : ∃ k : Nat, n = k := ⟨n.toNat, by omega⟩
  rw [itoa_nat]; simp [decI]
set_option maxRecDepth 100000 in
set_option maxHeartbeats 4000000 in
theorem joined_any (l : List Int) (A : Option Addr) (c : Nat) (w : World) (hr : Rd w 1 A l.length (ints l)) (hl : l.length ≤ 1000) (hN : NatL l) (E : Env w) :
    Calls Tryz.prog 66 #[.slice A l.length c] w fun e w' => e = .returned (.string (bs (joinS (l.map decI)))) ∧ Below w.heap.size w w' := by
  obtain ⟨iS, hS0, hS1, hS2, hS3⟩ := info_parts infoStr
  obtain ⟨n, hn⟩ : ∃ n, n = l.length := ⟨_, rfl⟩
  have O0 : Own w.heap.size w [.own 9 1 none 0 0 [] []] w := by
    have h := (Own.start w).new (i := .own 9 1 none 0 0 [] []) (Below.refl _ _) (OwnS.nil _ _ _) (by simp [It.fp])
    simpa using h
  obtain ⟨J, hJ⟩ : ∃ J, J = bs (joinS (l.map decI)) := ⟨_, rfl⟩
  rw [← hJ, ← hn]
  rw [← hn] at hr hl
  have H := Lib.hid (And.intro O0 (And.intro hr (And.intro hN (And.intro E (And.intro hn hJ)))))
  clear O0 hr hN E hn hJ
  go_enter Tryz.func66, Tryz.ntmps66
  go_wp2_with fail
  go_loopg [3, 8] n (fun g o i wr => ∃ (k : Nat) (B : Option Addr) (d : Nat) (q : List Nat), g + k = n ∧ i = .int .i64 k ∧ o = .slice B k d ∧ Own w.heap.size w [.own 9 1 B k d (strs ((l.take k).map decI)) q] wr)
  case atStart => exact ⟨0, none, 0, [], rfl, rfl, rfl, H.out.1⟩
  case round =>
    obtain ⟨k, B, d, q, hk, rfl, rfl, oo⟩ := hrel
    by_cases hlt : k < n
    · have hkL : k < l.length := by have := H.out.2.2.2.2.1; omega
      obtain ⟨b, off, rfl, hb, hc⟩ := H.out.2.1.2 (by omega)
      obtain ⟨x, hx⟩ : ∃ x, x = l.getD k 0 := ⟨_, rfl⟩
      have hx2 : x = l[k] := by rw [hx, List.getD_eq_getElem?_getD, List.getElem?_eq_getElem hkL]; rfl
      have c0 := (oo.bel.cell (p := ⟨b, off + k, none⟩) hb).trans (hc k (.int .i64 x) (by rw [hx]; exact ints_get hkL))
      have zb := Nat.lt_of_lt_of_le hb oo.bel.size
      have hxn := H.out.2.2.1 x (by rw [hx2]; exact List.getElem_mem hkL)
      have ki := Tryz.strconv_Itoa x (by omega) (by omega) wr (Env.below H.out.2.2.2.1 oo.bel).2
      obtain ⟨X, hX⟩ : ∃ X, X = bs (decI x) := ⟨_, rfl⟩
      rw [itoa_int hxn.1] at ki
      have ki2 : Calls Tryz.prog 113 #[.int .i64 x] wr fun e w' => e = .returned (.string X) ∧ Below wr.heap.size wr w' := ki.mono fun e w' h => ⟨by rw [hX]; exact h.1, by obtain ⟨_, q, os, rfl⟩ := h; exact grow_below _ _ _⟩
      have HS := Lib.hid (And.intro oo (And.intro ki2 (And.intro hX hx2)))
      clear hc oo ki ki2 hX hx hx2 hb hxn
      go_wp2_with (first
        | (go_at_call 113; refine HS.out.2.1.mono ?_; rintro e w1 ⟨rfl, hw1⟩; have HO := Lib.hid (HS.out.1.below hw1); clear hw1)
        | (at_builtin
           refine wpList_append_S (size := 1) rfl (.tmp 12) (.tmp 15) 36 rfl iS _ 16 Tryz.underlying36 hS0 hS1 hS2 (by decide) hS3 rfl (A := B) (n := k) (c := d) (xs := strs ((l.take k).map decI)) (fp := q) (by simp [Act.eval]) ⟨w1.heap.size, 0, none⟩ (by simp [Act.eval]) [Value.string X] (((HO.out).below ((Below.refl _ _).alloc (Nat.le_refl _) _)).get 0 rfl) rfl ?_ (by intro u hu; simp at hu; rcases hu with rfl; rfl) (by omega) (by decide) ?_
           · intro u v hv
             rw [show (⟨w1.heap.size, 0, none⟩ : Addr).add u = ⟨w1.heap.size, u, none⟩ from by simp [Addr.add]; omega, World.cell?_alloc_new]
             simpa using hv
           intro g c' w5 q1 q2 q3 q4
           have SB := ((HO.out).below ((Below.refl _ _).alloc (Nat.le_refl _) (.cells #[Value.string X] 9))).upd 0 rfl (i' := It.own 9 1 (some ⟨g, 0, none⟩) (k + 1) c' (strs ((l.take k).map decI) ++ [Value.string X]) [g]) q4 q1 (fun u hu => by rw [List.mem_singleton.1 hu]; rcases q2 with e | e; exact .inl e; exact .inr (Nat.le_of_eq e))
           have HQ := Lib.hid SB
           clear SB q1 q2 q3 q4))
      go_roundg (gk - 1)
      case measure => omega
      case rel =>
        refine ⟨k + 1, some ⟨g, 0, none⟩, c', [g], by omega, by go_num, rfl, ?_⟩
        have := HQ.out
        rw [HS.out.2.2.1, strs_snoc, HS.out.2.2.2] at this
        rw [List.take_succ_eq_append_getElem hkL, List.map_append]
        exact this
    · obtain rfl : k = n := by omega
      have hnl := H.out.2.2.2.2.1
      have et : (l.take k).map decI = l.map decI := by rw [hnl, List.take_length]
      rw [et] at oo
      have kj : Calls Tryz.prog 54 #[.slice B k d, .string ⟨#[32]⟩] wr fun e w' => e = .returned (.string J) ∧ Below wr.heap.size wr w' := by
        rcases (oo.owns 0 rfl).2 with ⟨rfl, hz, rfl, _⟩ | ⟨g, cur, rfl, _, hh, h1, h2, h3, h4⟩
        · have hl0 : l = [] := List.length_eq_zero_iff.1 (by omega)
          rw [hz]
          refine (Tryz.strings_Join_none none 0 ⟨#[32]⟩ wr).mono ?_
          rintro e w' ⟨rfl, rfl⟩
          exact ⟨by rw [H.out.2.2.2.2.2, hl0]; rfl, Below.refl _ _⟩
        · have hjl : (Lib.join (((l.map decI).map bs).map (·.data.toList)) [32]) = joinS (l.map decI) := by
            rw [join_eq, List.map_map]
            congr 1
            conv => rhs; rw [← List.map_id (l.map decI)]
            rfl
          have := Tryz.strings_Join g 0 d ((l.map decI).map bs) ⟨#[32]⟩ wr (fun j x hx => by
            rw [Nat.zero_add]
            exact (cell_of_heap hh j).trans (h4 j _ (by rw [strs, List.getElem?_map]; rw [List.getElem?_map] at hx; cases hq : (l.map decI)[j]? <;> rw [hq] at hx <;> simp at hx ⊢; rw [← hx]))) (heap_lt hh) (by simp; omega) (by simp; omega) (by
              show (Lib.join _ [32]).length ≤ _
              rw [hjl]
              have := joinS_len (l.map decI) 13 (fun f hf => by obtain ⟨n, hn, rfl⟩ := List.mem_map.1 hf; exact decI_len (H.out.2.2.1 n hn))
              simp at this; omega)
          have e2 : ((l.map decI).map bs).length = k := by simp; omega
          rw [e2] at this
          refine this.mono ?_
          rintro e w' ⟨rfl, hb⟩
          refine ⟨?_, hb⟩
          rw [H.out.2.2.2.2.2, ← hjl]
      have HS := Lib.hid (And.intro oo kj)
      clear oo kj hnl et
      go_wp2_with (go_at_call 54; refine HS.out.2.mono ?_; rintro e w1 ⟨rfl, hw1⟩; have HW := Lib.hid hw1; clear hw1)
      go_ret
      exact ⟨rfl, HS.out.1.bel.trans (HW.out.mono HS.out.1.bel.size)⟩
end Go.Proofs.YtaokegobilphnaaGreatDoor
/- slices.ContainsFunc with closures that only read (printed by wip/tools/anyf.py) -/
namespace Go.Proofs.YtaokegobilphnaaGreatDoor
open Go Go.RowKit Sp Lg
set_option linter.unusedVariables false

set_option maxHeartbeats 1000000 in
theorem idxArg_any (f : Int → Bool) (A : Option Addr) (c : Nat) (l : List Int) (w : World) (hr : Rd w 1 A l.length (ints l)) (hm : l.length ≤ 9223372036854775807)
    (hf : ∀ x ∈ l, ∀ n, Calls Tryz.prog 111 #[.int .i64 x] (w.drewN n) fun e w' => e = .returned (.bool (f x)) ∧ ∃ m, w' = w.drewN m) :
    Calls Tryz.prog 146 #[.slice A l.length c, .func (.func 111) #[] #[]] w fun e w' => ∃ r : Int, e = .returned (.int .i64 r) ∧ decide (0 ≤ r) = l.any f ∧ ∃ m, w' = w.drewN m := by
  go_enter Tryz.func146, Tryz.ntmps146
  go_wp2_with fail
  go_loopg [8] (l.length) (fun g i wr => ∃ k : Nat, g + k = l.length ∧ i = .int .i64 k ∧ (l.take k).any f = false ∧ ∃ m, wr = w.drewN m)
  case atStart => exact ⟨0, rfl, rfl, by simp, 0, rfl⟩
  case round =>
    obtain ⟨k, hk, rfl, hb, m, rfl⟩ := hrel
    have HB := Lib.hid hb
    clear hb
    by_cases hlt : k < l.length
    · obtain ⟨b, off, rfl, hbb, hc⟩ := hr.2 (by omega)
      have c0 := hc k _ (ints_get hlt)
      obtain ⟨x, hx⟩ : ∃ x, x = l.getD k 0 := ⟨_, rfl⟩
      rw [← hx] at c0
      have hx' : l[k] = x := by rw [hx]; simp [hlt]
      have H := hf x (by rw [← hx']; exact List.getElem_mem _) m
      obtain ⟨z, hz⟩ : ∃ z, z = f x := ⟨_, rfl⟩
      rw [← hz] at H
      have hs : (l.take (k + 1)).any f = z := by rw [List.take_succ_eq_append_getElem hlt, List.any_append, HB.out, hx', hz]; simp
      have HH := Lib.hid (And.intro H hs)
      clear H hs hz hx' hx hc hr hf
      cases z
      · go_wp2_with (go_at_call 111; refine HH.out.1.mono ?_; rintro e w' ⟨rfl, m', rfl⟩)
        go_roundg (gk - 1)
        case measure => omega
        case rel => exact ⟨k + 1, by omega, by go_num, HH.out.2, m', rfl⟩
      · go_wp2_with (go_at_call 111; refine HH.out.1.mono ?_; rintro e w' ⟨rfl, m', rfl⟩)
        go_ret
        refine ⟨k, rfl, ?_, m', rfl⟩
        have h1 : l.any f = true := by
          obtain ⟨y, hy, hfy⟩ := List.any_eq_true.1 HH.out.2
          exact List.any_eq_true.2 ⟨y, List.mem_of_mem_take hy, hfy⟩
        rw [h1]; simp
    · obtain rfl : k = l.length := by omega
      go_wp2_with fail
      go_ret
      exact ⟨-1, rfl, by have := HB.out; rw [List.take_length] at this; rw [this]; simp, m, rfl⟩

theorem anyArg_any (f : Int → Bool) (A : Option Addr) (c : Nat) (l : List Int) (w : World) (hr : Rd w 1 A l.length (ints l)) (hm : l.length ≤ 9223372036854775807)
    (hf : ∀ x ∈ l, ∀ n, Calls Tryz.prog 111 #[.int .i64 x] (w.drewN n) fun e w' => e = .returned (.bool (f x)) ∧ ∃ m, w' = w.drewN m) :
    Calls Tryz.prog 110 #[.slice A l.length c, .func (.func 111) #[] #[]] w fun e w' => e = .returned (.bool (l.any f)) ∧ ∃ m, w' = w.drewN m := by
  have H := idxArg_any f  A c l w hr hm hf
  clear hf
  go_enter Tryz.func110, Tryz.ntmps110
  go_wp2_with (go_at_call 146; refine H.mono ?_; rintro e w' ⟨r, rfl, hd, m, rfl⟩; have HD := Lib.hid hd; clear hd)
  go_ret
  exact ⟨by rw [← HD.out]; rfl, m, rfl⟩
end Go.Proofs.YtaokegobilphnaaGreatDoor
