import Derived.Orders
import Derived.KernelRfl
import Derived.WalkKit
import Derived.Test.YthmldeningpjbaaPRp0
import Derived.Laws.MakeOwn
set_option linter.unusedVariables false
set_option linter.unusedSimpArgs false
set_option maxRecDepth 100000
set_option maxHeartbeats 40000000
namespace Go.Proofs.Ythmldeningpjbaa
open Go
def upd (l : Nat → Bool) (i : Nat) : Nat → Bool := fun j => if j = i then true else l j
def cntFalse (f : Nat → Bool) : Nat → Nat
  | 0 => 0
  | n + 1 => cntFalse f n + (if f n then 0 else 1)
theorem cntFalse_congr {f g : Nat → Bool} : ∀ n, (∀ j, j < n → f j = g j) → cntFalse f n = cntFalse g n
  | 0, _ => rfl
  | n + 1, h => by rw [cntFalse, cntFalse, cntFalse_congr n (fun j hj => h j (by omega)), h n (by omega)]
theorem cntFalse_upd {f : Nat → Bool} {i : Nat} (hf : f i = false) : ∀ n, i < n → cntFalse (upd f i) n + 1 = cntFalse f n
  | 0, h => absurd h (by omega)
  | n + 1, h => by
    by_cases hi : i = n
    · subst hi;rw [cntFalse, cntFalse, cntFalse_congr i (fun j hj => by simp [upd]; omega : ∀ j, j < i → upd f i j = f j)];simp [upd, hf]
    · rw [cntFalse, cntFalse];have := cntFalse_upd hf n (by omega);have hn : upd f i n = f n := by simp [upd]; omega
      rw [hn];omega
theorem cntFalse_zero {f : Nat → Bool} : ∀ n, cntFalse f n = 0 → ∀ j, j < n → f j = true
  | 0, _, j, hj => absurd hj (by omega)
  | n + 1, h, j, hj => by
    rw [cntFalse] at h;have h1 : f n = true := by
      cases hfn : f n with
      | true => rfl
      | false => rw [hfn] at h; simp at h
    by_cases hjn : j = n
    · subst hjn; exact h1
    · exact cntFalse_zero n (by omega) j (by omega)
theorem cntFalse_le (f : Nat → Bool) : ∀ n, cntFalse f n ≤ n
  | 0 => Nat.le_refl _
  | n + 1 => by rw [cntFalse]; have := cntFalse_le f n; split <;> omega
structure FrOk (ops : List Oper) (a0 : Act) (φ : Nat → Value → World → Prop) (l : Nat → Bool) (a : Act) (w : World) : Prop where
  defers : a.defers = a0.defers
  size : a.tmps.size = a0.tmps.size
  other : ∀ t, (∀ j o, ops[j]? = some o → o.dst = some t → l j = false) → a.tmps[t]? = a0.tmps[t]?
  vals : ∀ j o d, l j = true → ops[j]? = some o → o.dst = some d → ∃ v, a.tmps[d]? = some v ∧ φ j v w
  closed : ∀ j o, l j = true → ops[j]? = some o → ∀ e ∈ o.after.toList, Region.binds .any e = true → l e.on = true
def regionOk (ops : List Oper) (n : Nat) : Bool :=
  (ops.filterMap (·.dst)).Nodup && (ops.filterMap (·.dst)).all (· < n) && ops.zipIdx.all (fun p => p.1.guard.isNone && p.1.after.toList.all fun e => !Region.binds .any e || decide (e.on < p.2))
theorem nodup_dst : ∀ {ops : List Oper}, (ops.filterMap (fun o => o.dst)).Nodup → ∀ {i j : Nat} {o o' : Oper} {d : Nat}, ops[i]? = some o → ops[j]? = some o' → o.dst = some d → o'.dst = some d → i = j
  | [], _, i, j, o, o', d, hi, _, _, _ => by simp at hi
  | x :: xs, h, i, j, o, o', d, hi, hj, ho, ho' => by
    have hx : (xs.filterMap (·.dst)).Nodup := by
      cases hxd : x.dst with
      | none => simpa [List.filterMap_cons, hxd] using h
      | some y => rw [List.filterMap_cons, hxd] at h; exact (List.nodup_cons.1 h).2
    have hmem : ∀ {k : Nat} {p : Oper}, xs[k]? = some p → p.dst = some d → x.dst ≠ some d := by
      intro k p hk hp hxd;rw [List.filterMap_cons, hxd] at h;exact (List.nodup_cons.1 h).1 (List.mem_filterMap.2 ⟨p, List.mem_of_getElem? hk, hp⟩)
    cases i with
    | zero =>
      cases j with
      | zero => rfl
      | succ j =>
        simp only [List.getElem?_cons_zero, Option.some.injEq] at hi;subst hi;exact absurd ho (hmem (by simpa using hj) ho')
    | succ i =>
      cases j with
      | zero =>
        simp only [List.getElem?_cons_zero, Option.some.injEq] at hj;subst hj;exact absurd ho' (hmem (by simpa using hi) ho)
      | succ j =>
        have := nodup_dst hx (i := i) (j := j) (by simpa using hi) (by simpa using hj) ho ho';omega
def AllFrom (f : Nat → Oper → Prop) : Nat → List Oper → Prop
  | _, [] => True
  | k, o :: os => f k o ∧ AllFrom f (k + 1) os
theorem allFrom_get {f : Nat → Oper → Prop} : ∀ {ops : List Oper} {k : Nat}, AllFrom f k ops → ∀ i o, ops[i]? = some o → f (k + i) o
  | [], _, _, i, o, h => by simp at h
  | x :: xs, k, ⟨h1, h2⟩, i, o, h => by
    cases i with
    | zero =>
      simp only [List.getElem?_cons_zero, Option.some.injEq] at h;subst h;exact h1
    | succ i =>
      have := allFrom_get h2 i o (by simpa using h)
      rwa [show k + 1 + i = k + (i + 1) from by omega] at this
theorem wp_region_inv {σ : Type} {P : Program} {ops : List Oper} {Q : Exit → Act → World → Prop} {id : Nat} {a0 : Act} {w0 : World} (hm : P.follows .mixedOrders = true)
    (hok : regionOk ops a0.tmps.size = true)
    (φ : σ → Nat → Value → World → Prop) (W : σ → (Nat → Bool) → World → Prop) (s0 : σ) (h0 : W s0 (fun _ => false) w0.drew)
    (hstep : ∀ i o, ops[i]? = some o → ∀ s l a w, l i = false → (∀ e ∈ o.after.toList, Region.binds .any e = true → l e.on = true) → W s l w → FrOk ops a0 (φ s) l a w →
      o.wp P a w (fun a' w' => ∃ s' v, a' = a.put o.dst v ∧ W s' (upd l i) w' ∧ (o.dst.isSome = true → φ s' i v w') ∧ (∀ j u, l j = true → φ s j u w → φ s' j u w')) Q)
    (hfin : ∀ s a w, W s (fun j => decide (j < ops.length)) w → FrOk ops a0 (φ s) (fun j => decide (j < ops.length)) a w → Q .normal a w) :
    (Code.region id ops.toArray true).wp P Q a0 w0 := by
  simp only [regionOk, Bool.and_eq_true, decide_eq_true_eq] at hok;obtain ⟨⟨hnd, hltB⟩, hgB⟩ := hok;have hlt : ∀ (o : Oper) (d : Nat), o ∈ ops → o.dst = some d → d < a0.tmps.size := fun o d ho hd => by
    have := List.all_eq_true.1 hltB d (List.mem_filterMap.2 ⟨o, ho, hd⟩);simpa using this
  have hg : ∀ i o, ops[i]? = some o → o.guard = none ∧ ∀ e ∈ o.after.toList, Region.binds .any e = true → e.on < i := fun i o ho => by
    have := List.all_eq_true.1 hgB (o, i) (List.mem_zipIdx_iff_getElem?.2 ho);simp only [Bool.and_eq_true, Option.isNone_iff_eq_none] at this;refine ⟨this.1, fun e he hb => ?_⟩;have h2 := List.all_eq_true.1 this.2 e he;simpa [hb] using h2
  have hsz : ops.toArray.size = ops.length := by simp
  have hall : ∀ listed : Array Bool, listed.size = ops.length → Region.ready .any ops.toArray listed = [] → ∀ n, ∀ j, j < n → j < ops.length → listed.getD j false = true := by
    intro listed hls hr n;induction n with
    | zero => intro j hj; omega
    | succ n ih =>
      intro j hj hjl;by_cases hjn : j < n
      · exact ih j hjn hjl
      · obtain rfl : j = n := by omega
        cases hl : listed.getD j false with
        | true => rfl
        | false =>
          exfalso;have hl' : listed.getD j true = false ∨ listed.size ≤ j := by
            rcases Nat.lt_or_ge j listed.size with h | h
            · left; simp [h] at hl ⊢; exact hl
            · exact .inr h
          have ho : ops[j]? = some ops[j] := List.getElem?_eq_getElem hjl;rcases hl' with hl' | hl'
          · have : j ∈ Region.ready .any ops.toArray listed := mem_ready.2 ⟨hl', ops[j], by simp [hjl], fun e he hb => ih e.on ((hg j _ ho).2 e (by simpa using he) hb) (by have := (hg j _ ho).2 e (by simpa using he) hb; omega)⟩;rw [hr] at this;cases this
          · omega
  have main : ∀ fuel (listed : Array Bool) (a : Act) (w : World) (s : σ), listed.size = ops.length → cntFalse (fun j => listed.getD j false) ops.length ≤ fuel → W s (fun j => listed.getD j false) w → FrOk ops a0 (φ s) (fun j => listed.getD j false) a w →
      wpAny P .any ops.toArray Q fuel listed a w := by
    intro fuel;have hend : ∀ (listed : Array Bool) (a : Act) (w : World) (s : σ), listed.size = ops.length → (∀ j, j < ops.length → listed.getD j false = true) → W s (fun j => listed.getD j false) w → FrOk ops a0 (φ s) (fun j => listed.getD j false) a w → Q .normal a w := by
      intro listed a w s hs hl hW hF;have he : (fun j => listed.getD j false) = fun j => decide (j < ops.length) := by
        funext j
        by_cases hj : j < ops.length
        · rw [hl j hj]; simp [hj]
        · simp [hj, hs]
      rw [he] at hW hF;exact hfin s a w hW hF
    induction fuel with
    | zero =>
      intro listed a w s hs hc hW hF;have hl := cntFalse_zero ops.length (Nat.le_zero.1 hc);refine ⟨?_, hend listed a w s hs hl hW hF⟩;apply List.eq_nil_iff_forall_not_mem.2;intro i hi;obtain ⟨h1, o, ho, _⟩ := mem_ready.1 hi;have hil : i < ops.length := by simpa using (Array.getElem?_eq_some_iff.1 ho).1
      have h2 := hl i hil;have : i < listed.size := by omega
      simp [this] at h1 h2;rw [h2] at h1;cases h1
    | succ fuel ih =>
      intro listed a w s hs hc hW hF;refine ⟨fun hr => hend listed a w s hs (fun j hj => hall listed hs hr (j + 1) j (by omega) hj) hW hF, fun i hi => ?_⟩;obtain ⟨h1, o, ho, hdep⟩ := mem_ready.1 hi;have hil : i < ops.length := by simpa using (Array.getElem?_eq_some_iff.1 ho).1
      have ho' : ops[i]? = some o := by rw [← ho]; simp
      have hli : i < listed.size := by omega
      have hl0 : listed.getD i false = false := by simp [hli] at h1 ⊢; exact h1
      have hst := hstep i o ho' s (fun j => listed.getD j false) a w hl0 (fun e he hb => hdep e (by simpa using he) hb) hW hF;unfold wpOp;rw [ho];simp only [Region.wanted, (hg i o ho').1, if_true];refine .inl (Oper.wp_mono ?_ hst);rintro a' w' ⟨s', v, rfl, hW', hφ, hstab⟩;have hupd : (fun j => (listed.setIfInBounds i true).getD j false) = upd (fun j => listed.getD j false) i := by
        funext j
        simp only [upd];split
        · rename_i hj; subst hj; simp [hli]
        · rename_i hj; rw [getD_set_ne false (Ne.symm hj)]
      have hcl : ∀ j o', upd (fun j => listed.getD j false) i j = true → ops[j]? = some o' → ∀ e ∈ o'.after.toList, Region.binds .any e = true → upd (fun j => listed.getD j false) i e.on = true := by
        intro j o' hj ho'' e he hb;have hold : (listed.getD e.on false) = true → upd (fun j => listed.getD j false) i e.on = true := fun h => by simp only [upd]; split <;> first | rfl | exact h
        by_cases hji : j = i
        · subst hji;rw [ho'] at ho'';injection ho'' with e1
          subst e1;exact hold (hdep e (by simpa using he) hb)
        · have hj' : listed.getD j false = true := by simpa [upd, hji] using hj
          exact hold (hF.closed j o' hj' ho'' e he hb)
      have hF' : FrOk ops a0 (φ s') (upd (fun j => listed.getD j false) i) (a.put o.dst v) w' := by
        cases hd : o.dst with
        | none =>
          refine ⟨hF.defers, hF.size, fun t ht => hF.other t (fun j o' hj hd' => by have := ht j o' hj hd'; simp only [upd] at this; split at this <;> first | exact this | cases this), fun j o' d hj ho'' hd' => ?_, hcl⟩;have hji : j ≠ i := by
            rintro rfl;rw [ho'] at ho'';injection ho'' with e
            rw [← e, hd] at hd';cases hd'
          have hj' : listed.getD j false = true := by simpa [upd, hji] using hj
          obtain ⟨u, hu, hp⟩ := hF.vals j o' d hj' ho'' hd';exact ⟨u, hu, hstab j u hj' hp⟩
        | some d0 =>
          refine ⟨hF.defers, by simp [Act.put, hF.size], fun t ht => ?_, fun j o' d hj ho'' hd' => ?_, hcl⟩
          · have : d0 ≠ t := fun e => by
              have := ht i o ho' (by rw [hd, e]);simp [upd] at this
            simp only [Act.put];rw [Array.getElem?_setIfInBounds_ne this];exact hF.other t (fun j o' hj hd' => by have := ht j o' hj hd'; simp only [upd] at this; split at this <;> first | exact this | cases this)
          · by_cases hji : j = i
            · subst hji;rw [ho'] at ho'';injection ho'' with e
              subst e;rw [hd] at hd';injection hd' with e
              subst e;have hlt' : d0 < a.tmps.size := by rw [hF.size]; exact hlt o d0 (List.mem_of_getElem? ho') hd
              exact ⟨v, by simp [Act.put, hlt'], hφ (by rw [hd]; rfl)⟩
            · have hj' : listed.getD j false = true := by simpa [upd, hji] using hj
              obtain ⟨u, hu, hp⟩ := hF.vals j o' d hj' ho'' hd';have hne : d0 ≠ d := by
                rintro rfl;exact hji (nodup_dst hnd ho'' ho' hd' hd)
              refine ⟨u, ?_, hstab j u hj' hp⟩;simp only [Act.put];rw [Array.getElem?_setIfInBounds_ne hne];exact hu
      refine ih _ _ _ s' (by simp [hs]) ?_ (by rw [hupd]; exact hW') (by rw [hupd]; exact hF');rw [hupd];have := cntFalse_upd (f := fun j => listed.getD j false) hl0 ops.length hil;omega
  refine wp_region_any hm ?_;rw [hsz];have hf : (fun j => (Array.replicate ops.length false).getD j false) = fun _ => false := by
    funext j
    rcases Nat.lt_or_ge j ops.length with h | h <;> simp [h]
  refine main ops.length _ a0 w0.drew s0 (by simp) (cntFalse_le _ _) (by rw [hf]; exact h0) ?_;exact ⟨rfl, rfl, fun _ _ => rfl, fun j o d hj => (by rw [congrFun hf j] at hj; cases hj), fun j o hj => (by rw [congrFun hf j] at hj; cases hj)⟩
def StepOk {σ : Type} (P : Program) (ops : List Oper) (Q : Exit → Act → World → Prop) (a0 : Act) (φ : σ → Nat → Value → World → Prop) (W : σ → (Nat → Bool) → World → Prop) (i : Nat) (o : Oper) : Prop :=
  ∀ s l a w, l i = false → (∀ e ∈ o.after.toList, Region.binds .any e = true → l e.on = true) → W s l w → FrOk ops a0 (φ s) l a w →
      o.wp P a w (fun a' w' => ∃ s' v, a' = a.put o.dst v ∧ W s' (upd l i) w' ∧ (o.dst.isSome = true → φ s' i v w') ∧ (∀ j u, l j = true → φ s j u w → φ s' j u w')) Q
theorem wRS {σ : Type} {P : Program} {ops : List Oper} {Q : Exit → Act → World → Prop} {id : Nat} {a0 : Act} {w0 : World} (hm : P.follows .mixedOrders = true)
    (hok : regionOk ops a0.tmps.size = true)
    (φ : σ → Nat → Value → World → Prop) (W : σ → (Nat → Bool) → World → Prop) (s0 : σ) (h0 : W s0 (fun _ => false) w0.drew)
    (hstep : AllFrom (StepOk P ops Q a0 φ W) 0 ops)
    (hfin : ∀ s a w, W s (fun j => decide (j < ops.length)) w → FrOk ops a0 (φ s) (fun j => decide (j < ops.length)) a w → Q .normal a w) :
    (Code.region id ops.toArray true).wp P Q a0 w0 :=
  wp_region_inv hm hok φ W s0 h0 (fun i o ho => by have := allFrom_get hstep i o ho; rwa [Nat.zero_add] at this) hfin
theorem sP_ {σ : Type} {P : Program} {ops : List Oper} {Q : Exit → Act → World → Prop} {a0 : Act} {φ : σ → Nat → Value → World → Prop} {W : σ → (Nat → Bool) → World → Prop} {i : Nat} {o : Oper}
    (h : ∀ s l a w, l i = false → (∀ e ∈ o.after.toList, Region.binds .any e = true → l e.on = true) → W s l w → FrOk ops a0 (φ s) l a w →
      W s (upd l i) w ∧ ∃ v, (execOp a.eval o).run P w = .ok (.value v) w ∧ φ s i v w) : StepOk P ops Q a0 φ W i o := by
  intro s l a w hl hd hW hF;obtain ⟨hW', v, hr, hp⟩ := h s l a w hl hd hW hF;unfold Oper.wp;rw [hr];exact ⟨s, v, rfl, hW', fun _ => hp, fun _ _ _ h => h⟩
theorem sR_ {σ : Type} {P : Program} {ops : List Oper} {Q : Exit → Act → World → Prop} {a0 : Act} {φ : σ → Nat → Value → World → Prop} {W : σ → (Nat → Bool) → World → Prop} {i : Nat} {o : Oper}
    (h : ∀ s l a w, l i = false → (∀ e ∈ o.after.toList, Region.binds .any e = true → l e.on = true) → W s l w → FrOk ops a0 (φ s) l a w →
      ∃ v w' s', (execOp a.eval o).run P w = .ok (.value v) w' ∧ W s' (upd l i) w' ∧ φ s' i v w' ∧ (∀ j u, l j = true → φ s j u w → φ s' j u w')) : StepOk P ops Q a0 φ W i o := by
  intro s l a w hl hd hW hF;obtain ⟨v, w', s', hr, hW', hp, hst⟩ := h s l a w hl hd hW hF;unfold Oper.wp;rw [hr];exact ⟨s', v, rfl, hW', fun _ => hp, hst⟩
theorem sS_ {σ : Type} {P : Program} {ops : List Oper} {Q : Exit → Act → World → Prop} {a0 : Act} {φ : σ → Nat → Value → World → Prop} {W : σ → (Nat → Bool) → World → Prop} {i : Nat} {o : Oper} (hn : o.dst = none)
    (h : ∀ s l a w, l i = false → (∀ e ∈ o.after.toList, Region.binds .any e = true → l e.on = true) → W s l w → FrOk ops a0 (φ s) l a w →
      ∃ w' s' r, (execOp a.eval o).run P w = .ok r w' ∧ (r = .skip ∨ ∃ v, r = .value v) ∧ W s' (upd l i) w' ∧ (∀ j u, l j = true → φ s j u w → φ s' j u w')) : StepOk P ops Q a0 φ W i o := by
  intro s l a w hl hd hW hF;obtain ⟨w', s', r, hr, hr', hW', hst⟩ := h s l a w hl hd hW hF;unfold Oper.wp;rw [hr];rcases hr' with rfl | ⟨v, rfl⟩
  · exact ⟨s', undef, rfl, hW', fun hs => (by rw [hn] at hs; cases hs), hst⟩
  · exact ⟨s', v, rfl, hW', fun hs => (by rw [hn] at hs; cases hs), hst⟩
theorem sC_ {σ : Type} {P : Program} {ops : List Oper} {Q : Exit → Act → World → Prop} {a0 : Act} {φ : σ → Nat → Value → World → Prop} {W : σ → (Nat → Bool) → World → Prop} {i : Nat} {o : Oper}
    (h : ∀ s l a w, l i = false → (∀ e ∈ o.after.toList, Region.binds .any e = true → l e.on = true) → W s l w → FrOk ops a0 (φ s) l a w →
      ∃ f args, (execOp a.eval o).run P w = .ok (.enter f args) w ∧ Calls P f args w fun e w' => ∃ v s', e = .returned v ∧ W s' (upd l i) w' ∧ φ s' i v w' ∧ (∀ j u, l j = true → φ s j u w → φ s' j u w')) : StepOk P ops Q a0 φ W i o := by
  intro s l a w hl hd hW hF;obtain ⟨f, args, hr, hc⟩ := h s l a w hl hd hW hF;unfold Oper.wp;rw [hr, Oper.upon_enter];refine hc.mono ?_;rintro e w' ⟨v, s', rfl, hW', hp, hst⟩;exact ⟨s', v, rfl, hW', fun _ => hp, hst⟩
section
variable {ops : List Oper} {a0 : Act} {φ : Nat → Value → World → Prop} {l : Nat → Bool} {a : Act} {w : World}
theorem FrOk.notYet (h : FrOk ops a0 φ l a w) (i j : Nat) (hi : l i = false) (hw : ((ops[j]?).map fun o => o.after.toList.any fun e => Region.binds .any e && e.on == i) = some true) : l j = false := by
  cases hj : l j with
  | false => rfl
  | true =>
    cases ho : ops[j]? with
    | none => rw [ho] at hw; cases hw
    | some o =>
      rw [ho] at hw;simp only [Option.map_some, Option.some.injEq] at hw;obtain ⟨e, he, hb⟩ := List.any_eq_true.1 hw;simp only [Bool.and_eq_true, beq_iff_eq] at hb;have := h.closed j o hj ho e he hb.1;rw [hb.2, hi] at this;cases this
theorem FrOk.old (h : FrOk ops a0 φ l a w) (t : Nat) (ht : ops.all (fun o => decide (o.dst ≠ some t)) = true) : a.eval (.tmp t) = a0.eval (.tmp t) := by
  have := h.other t (fun j o ho hd => absurd hd (by simpa using List.all_eq_true.1 ht o (List.mem_of_getElem? ho)));simp only [Act.eval, Array.getD_eq_getD_getElem?, this]
theorem FrOk.new (h : FrOk ops a0 φ l a w) (j d : Nat) (hl : l j = true) (hd : (ops[j]?).bind (·.dst) = some d) : φ j (a.eval (.tmp d)) w := by
  cases ho : ops[j]? with
  | none => rw [ho] at hd; cases hd
  | some o =>
    rw [ho] at hd;obtain ⟨v, hv, hp⟩ := h.vals j o d hl ho hd;simpa [Act.eval, Array.getD_eq_getD_getElem?, hv] using hp
theorem foldl_set (f : Nat → Value) : ∀ (ts : List Nat) (z : Array Value), (ts.foldl (fun z t => z.setIfInBounds t (f t)) z).size = z.size ∧
    ∀ i, i < z.size → (ts.foldl (fun z t => z.setIfInBounds t (f t)) z)[i]? = if i ∈ ts then some (f i) else z[i]?
  | [], z => ⟨rfl, fun i _ => by simp⟩
  | t :: ts, z => by
    obtain ⟨h1, h2⟩ := foldl_set f ts (z.setIfInBounds t (f t));refine ⟨by simpa using h1, fun i hi => ?_⟩;have := h2 i (by simpa using hi);simp only [List.foldl_cons];rw [this];by_cases hts : i ∈ ts
    · simp [hts]
    · by_cases hit : t = i
      · subst hit; simp [hts, hi]
      · simp [hts, Array.getElem?_setIfInBounds_ne hit, Ne.symm hit]
theorem FrOk.lit (h : FrOk ops a0 φ (fun j => decide (j < ops.length)) a w) : ∃ f : Nat → Value, (∀ t, f t = a.eval (.tmp t)) ∧ a = { tmps := (ops.filterMap (fun o => o.dst)).foldl (fun z t => z.setIfInBounds t (f t)) a0.tmps, defers := a0.defers } := by
  refine ⟨fun t => a.eval (.tmp t), fun _ => rfl, ?_⟩;obtain ⟨h1, h2⟩ := foldl_set (fun t => a.eval (.tmp t)) (ops.filterMap (fun o => o.dst)) a0.tmps;have ht : a.tmps = (ops.filterMap (fun o => o.dst)).foldl (fun z t => z.setIfInBounds t (a.eval (.tmp t))) a0.tmps := by
    apply Array.ext_getElem?;intro i;rcases Nat.lt_or_ge i a0.tmps.size with hi | hi
    · rw [h2 i hi];split
      · simp [Act.eval, Array.getD_eq_getD_getElem?, h.size, hi]
      · rename_i hn
        exact h.other i (fun j o ho hd => absurd (List.mem_filterMap.2 ⟨o, List.mem_of_getElem? ho, hd⟩) hn)
    · rw [Array.getElem?_eq_none (by rw [h.size]; exact hi), Array.getElem?_eq_none (by rw [h1]; exact hi)]
  obtain ⟨tm, df⟩ := a;have hdf := h.defers;simp only at ht hdf ⊢;rw [hdf]
  congr 1
end
end Go.Proofs.Ythmldeningpjbaa
namespace Go.Proofs.Ythmldeningpjbaa
open Go
def regionOkG (ops : List Oper) (n : Nat) : Bool :=
  (ops.filterMap (·.dst)).Nodup && (ops.filterMap (·.dst)).all (· < n) && ops.zipIdx.all (fun p => p.1.after.toList.all fun e => !Region.binds .any e || decide (e.on < p.2))
def GStep {σ : Type} (P : Program) (ops : List Oper) (Q : Exit → Act → World → Prop) (φ : σ → Nat → Value → World → Prop) (W : σ → (Nat → Bool) → World → Prop) (i : Nat) (o : Oper) (s : σ) (l : Nat → Bool) (a : Act) (w : World) : Prop :=
  if Region.wanted o (yielded ops.toArray a.tmps) = true then o.wp P a w (fun a' w' => ∃ s' v, a' = a.put o.dst v ∧ W s' (upd l i) w' ∧ (o.dst.isSome = true → φ s' i v w') ∧ (∀ j u, l j = true → φ s j u w → φ s' j u w')) Q
  else ∃ s' v, a.put o.dst undef = a.put o.dst v ∧ W s' (upd l i) w ∧ (o.dst.isSome = true → φ s' i v w) ∧ (∀ j u, l j = true → φ s j u w → φ s' j u w)
theorem wp_region_invG {σ : Type} {P : Program} {ops : List Oper} {Q : Exit → Act → World → Prop} {id : Nat} {a0 : Act} {w0 : World} (hm : P.follows .mixedOrders = true)
    (hok : regionOkG ops a0.tmps.size = true)
    (φ : σ → Nat → Value → World → Prop) (W : σ → (Nat → Bool) → World → Prop) (s0 : σ) (h0 : W s0 (fun _ => false) w0.drew)
    (hstep : ∀ i o, ops[i]? = some o → ∀ s l a w, l i = false → (∀ e ∈ o.after.toList, Region.binds .any e = true → l e.on = true) → W s l w → FrOk ops a0 (φ s) l a w →
      GStep P ops Q φ W i o s l a w)
    (hfin : ∀ s a w, W s (fun j => decide (j < ops.length)) w → FrOk ops a0 (φ s) (fun j => decide (j < ops.length)) a w → Q .normal a w) :
    (Code.region id ops.toArray true).wp P Q a0 w0 := by
  simp only [regionOkG, Bool.and_eq_true, decide_eq_true_eq] at hok;obtain ⟨⟨hnd, hltB⟩, hgB⟩ := hok;have hlt : ∀ (o : Oper) (d : Nat), o ∈ ops → o.dst = some d → d < a0.tmps.size := fun o d ho hd => by
    have := List.all_eq_true.1 hltB d (List.mem_filterMap.2 ⟨o, ho, hd⟩);simpa using this
  have hg : ∀ i o, ops[i]? = some o → True ∧ ∀ e ∈ o.after.toList, Region.binds .any e = true → e.on < i := fun i o ho => by
    have := List.all_eq_true.1 hgB (o, i) (List.mem_zipIdx_iff_getElem?.2 ho);simp only at this;refine ⟨trivial, fun e he hb => ?_⟩;have h2 := List.all_eq_true.1 this e he;simpa [hb] using h2
  have hsz : ops.toArray.size = ops.length := by simp
  have hall : ∀ listed : Array Bool, listed.size = ops.length → Region.ready .any ops.toArray listed = [] → ∀ n, ∀ j, j < n → j < ops.length → listed.getD j false = true := by
    intro listed hls hr n;induction n with
    | zero => intro j hj; omega
    | succ n ih =>
      intro j hj hjl;by_cases hjn : j < n
      · exact ih j hjn hjl
      · obtain rfl : j = n := by omega
        cases hl : listed.getD j false with
        | true => rfl
        | false =>
          exfalso;have hl' : listed.getD j true = false ∨ listed.size ≤ j := by
            rcases Nat.lt_or_ge j listed.size with h | h
            · left; simp [h] at hl ⊢; exact hl
            · exact .inr h
          have ho : ops[j]? = some ops[j] := List.getElem?_eq_getElem hjl;rcases hl' with hl' | hl'
          · have : j ∈ Region.ready .any ops.toArray listed := mem_ready.2 ⟨hl', ops[j], by simp [hjl], fun e he hb => ih e.on ((hg j _ ho).2 e (by simpa using he) hb) (by have := (hg j _ ho).2 e (by simpa using he) hb; omega)⟩;rw [hr] at this;cases this
          · omega
  have main : ∀ fuel (listed : Array Bool) (a : Act) (w : World) (s : σ), listed.size = ops.length → cntFalse (fun j => listed.getD j false) ops.length ≤ fuel → W s (fun j => listed.getD j false) w → FrOk ops a0 (φ s) (fun j => listed.getD j false) a w →
      wpAny P .any ops.toArray Q fuel listed a w := by
    intro fuel;have hend : ∀ (listed : Array Bool) (a : Act) (w : World) (s : σ), listed.size = ops.length → (∀ j, j < ops.length → listed.getD j false = true) → W s (fun j => listed.getD j false) w → FrOk ops a0 (φ s) (fun j => listed.getD j false) a w → Q .normal a w := by
      intro listed a w s hs hl hW hF;have he : (fun j => listed.getD j false) = fun j => decide (j < ops.length) := by
        funext j
        by_cases hj : j < ops.length
        · rw [hl j hj]; simp [hj]
        · simp [hj, hs]
      rw [he] at hW hF;exact hfin s a w hW hF
    induction fuel with
    | zero =>
      intro listed a w s hs hc hW hF;have hl := cntFalse_zero ops.length (Nat.le_zero.1 hc);refine ⟨?_, hend listed a w s hs hl hW hF⟩;apply List.eq_nil_iff_forall_not_mem.2;intro i hi;obtain ⟨h1, o, ho, _⟩ := mem_ready.1 hi;have hil : i < ops.length := by simpa using (Array.getElem?_eq_some_iff.1 ho).1
      have h2 := hl i hil;have : i < listed.size := by omega
      simp [this] at h1 h2;rw [h2] at h1;cases h1
    | succ fuel ih =>
      intro listed a w s hs hc hW hF;refine ⟨fun hr => hend listed a w s hs (fun j hj => hall listed hs hr (j + 1) j (by omega) hj) hW hF, fun i hi => ?_⟩;obtain ⟨h1, o, ho, hdep⟩ := mem_ready.1 hi;have hil : i < ops.length := by simpa using (Array.getElem?_eq_some_iff.1 ho).1
      have ho' : ops[i]? = some o := by rw [← ho]; simp
      have hli : i < listed.size := by omega
      have hl0 : listed.getD i false = false := by simp [hli] at h1 ⊢; exact h1
      have hst := hstep i o ho' s (fun j => listed.getD j false) a w hl0 (fun e he hb => hdep e (by simpa using he) hb) hW hF;unfold wpOp;rw [ho];have key : ∀ a' w', (∃ s' v, a' = a.put o.dst v ∧ W s' (upd (fun j => listed.getD j false) i) w' ∧ (o.dst.isSome = true → φ s' i v w') ∧ (∀ j u, (fun j => listed.getD j false) j = true → φ s j u w → φ s' j u w')) → wpAny P .any ops.toArray Q fuel (listed.setIfInBounds i true) a' w' := ?_
      · unfold GStep at hst;simp only;by_cases hw : Region.wanted o (yielded ops.toArray a.tmps) = true
        · rw [if_pos hw] at hst ⊢;exact .inl (Oper.wp_mono key hst)
        · rw [if_neg hw] at hst ⊢;exact key _ _ hst
      rintro a' w' ⟨s', v, rfl, hW', hφ, hstab⟩;have hupd : (fun j => (listed.setIfInBounds i true).getD j false) = upd (fun j => listed.getD j false) i := by
        funext j
        simp only [upd];split
        · rename_i hj; subst hj; simp [hli]
        · rename_i hj; rw [getD_set_ne false (Ne.symm hj)]
      have hcl : ∀ j o', upd (fun j => listed.getD j false) i j = true → ops[j]? = some o' → ∀ e ∈ o'.after.toList, Region.binds .any e = true → upd (fun j => listed.getD j false) i e.on = true := by
        intro j o' hj ho'' e he hb;have hold : (listed.getD e.on false) = true → upd (fun j => listed.getD j false) i e.on = true := fun h => by simp only [upd]; split <;> first | rfl | exact h
        by_cases hji : j = i
        · subst hji;rw [ho'] at ho'';injection ho'' with e1
          subst e1;exact hold (hdep e (by simpa using he) hb)
        · have hj' : listed.getD j false = true := by simpa [upd, hji] using hj
          exact hold (hF.closed j o' hj' ho'' e he hb)
      have hF' : FrOk ops a0 (φ s') (upd (fun j => listed.getD j false) i) (a.put o.dst v) w' := by
        cases hd : o.dst with
        | none =>
          refine ⟨hF.defers, hF.size, fun t ht => hF.other t (fun j o' hj hd' => by have := ht j o' hj hd'; simp only [upd] at this; split at this <;> first | exact this | cases this), fun j o' d hj ho'' hd' => ?_, hcl⟩;have hji : j ≠ i := by
            rintro rfl;rw [ho'] at ho'';injection ho'' with e
            rw [← e, hd] at hd';cases hd'
          have hj' : listed.getD j false = true := by simpa [upd, hji] using hj
          obtain ⟨u, hu, hp⟩ := hF.vals j o' d hj' ho'' hd';exact ⟨u, hu, hstab j u hj' hp⟩
        | some d0 =>
          refine ⟨hF.defers, by simp [Act.put, hF.size], fun t ht => ?_, fun j o' d hj ho'' hd' => ?_, hcl⟩
          · have : d0 ≠ t := fun e => by
              have := ht i o ho' (by rw [hd, e]);simp [upd] at this
            simp only [Act.put];rw [Array.getElem?_setIfInBounds_ne this];exact hF.other t (fun j o' hj hd' => by have := ht j o' hj hd'; simp only [upd] at this; split at this <;> first | exact this | cases this)
          · by_cases hji : j = i
            · subst hji;rw [ho'] at ho'';injection ho'' with e
              subst e;rw [hd] at hd';injection hd' with e
              subst e;have hlt' : d0 < a.tmps.size := by rw [hF.size]; exact hlt o d0 (List.mem_of_getElem? ho') hd
              exact ⟨v, by simp [Act.put, hlt'], hφ (by rw [hd]; rfl)⟩
            · have hj' : listed.getD j false = true := by simpa [upd, hji] using hj
              obtain ⟨u, hu, hp⟩ := hF.vals j o' d hj' ho'' hd';have hne : d0 ≠ d := by
                rintro rfl;exact hji (nodup_dst hnd ho'' ho' hd' hd)
              refine ⟨u, ?_, hstab j u hj' hp⟩;simp only [Act.put];rw [Array.getElem?_setIfInBounds_ne hne];exact hu
      refine ih _ _ _ s' (by simp [hs]) ?_ (by rw [hupd]; exact hW') (by rw [hupd]; exact hF');rw [hupd];have := cntFalse_upd (f := fun j => listed.getD j false) hl0 ops.length hil;omega
  refine wp_region_any hm ?_;rw [hsz];have hf : (fun j => (Array.replicate ops.length false).getD j false) = fun _ => false := by
    funext j
    rcases Nat.lt_or_ge j ops.length with h | h <;> simp [h]
  refine main ops.length _ a0 w0.drew s0 (by simp) (cntFalse_le _ _) (by rw [hf]; exact h0) ?_;exact ⟨rfl, rfl, fun _ _ => rfl, fun j o d hj => (by rw [congrFun hf j] at hj; cases hj), fun j o hj => (by rw [congrFun hf j] at hj; cases hj)⟩
def StepOkG {σ : Type} (P : Program) (ops : List Oper) (Q : Exit → Act → World → Prop) (a0 : Act) (φ : σ → Nat → Value → World → Prop) (W : σ → (Nat → Bool) → World → Prop) (i : Nat) (o : Oper) : Prop :=
  ∀ s l a w, l i = false → (∀ e ∈ o.after.toList, Region.binds .any e = true → l e.on = true) → W s l w → FrOk ops a0 (φ s) l a w → GStep P ops Q φ W i o s l a w
theorem wp_region_stepsG {σ : Type} {P : Program} {ops : List Oper} {Q : Exit → Act → World → Prop} {id : Nat} {a0 : Act} {w0 : World} (hm : P.follows .mixedOrders = true)
    (hok : regionOkG ops a0.tmps.size = true)
    (φ : σ → Nat → Value → World → Prop) (W : σ → (Nat → Bool) → World → Prop) (s0 : σ) (h0 : W s0 (fun _ => false) w0.drew)
    (hstep : AllFrom (StepOkG P ops Q a0 φ W) 0 ops)
    (hfin : ∀ s a w, W s (fun j => decide (j < ops.length)) w → FrOk ops a0 (φ s) (fun j => decide (j < ops.length)) a w → Q .normal a w) :
    (Code.region id ops.toArray true).wp P Q a0 w0 :=
  wp_region_invG hm hok φ W s0 h0 (fun i o ho => by have := allFrom_get hstep i o ho; rwa [Nat.zero_add] at this) hfin
theorem gP_ {σ : Type} {P : Program} {ops : List Oper} {Q : Exit → Act → World → Prop} {a0 : Act} {φ : σ → Nat → Value → World → Prop} {W : σ → (Nat → Bool) → World → Prop} {i : Nat} {o : Oper} (hg : o.guard = none) (h : StepOk P ops Q a0 φ W i o) : StepOkG P ops Q a0 φ W i o := by
  intro s l a w hl hd hW hF;unfold GStep;rw [if_pos (by simp [Region.wanted, hg])];exact h s l a w hl hd hW hF
theorem stepG_guard {σ : Type} {P : Program} {ops : List Oper} {Q : Exit → Act → World → Prop} {a0 : Act} {φ : σ → Nat → Value → World → Prop} {W : σ → (Nat → Bool) → World → Prop} {i : Nat} {o : Oper}
    (hy : ∀ s l a w, l i = false → (∀ e ∈ o.after.toList, Region.binds .any e = true → l e.on = true) → W s l w → FrOk ops a0 (φ s) l a w → Region.wanted o (yielded ops.toArray a.tmps) = true →
      o.wp P a w (fun a' w' => ∃ s' v, a' = a.put o.dst v ∧ W s' (upd l i) w' ∧ (o.dst.isSome = true → φ s' i v w') ∧ (∀ j u, l j = true → φ s j u w → φ s' j u w')) Q)
    (hn : ∀ s l a w, l i = false → (∀ e ∈ o.after.toList, Region.binds .any e = true → l e.on = true) → W s l w → FrOk ops a0 (φ s) l a w → Region.wanted o (yielded ops.toArray a.tmps) = false → W s (upd l i) w ∧ φ s i undef w) : StepOkG P ops Q a0 φ W i o := by
  intro s l a w hl hd hW hF;unfold GStep;by_cases hw : Region.wanted o (yielded ops.toArray a.tmps) = true
  · rw [if_pos hw]; exact hy s l a w hl hd hW hF hw
  · rw [if_neg hw];obtain ⟨h1, h2⟩ := hn s l a w hl hd hW hF (by simpa using hw);exact ⟨s, undef, rfl, h1, fun _ => h2, fun _ _ _ h => h⟩
end Go.Proofs.Ythmldeningpjbaa
namespace Go.Proofs.Ythmldeningpjbaa
open Go
section
variable {σ : Type} {P : Program} {ops : List Oper} {Q : Exit → Act → World → Prop} {a0 : Act} {φ : σ → Nat → Value → World → Prop} {W : σ → (Nat → Bool) → World → Prop} {i : Nat} {o : Oper}
theorem wQ_ {φ : Nat → Value → World → Prop} {l : Nat → Bool} {a : Act} {w : World} (hF : FrOk ops a0 φ l a w) {g d : Nat} {b z : Bool} (ho : o.guard = some (g, b)) (hd : (ops[g]?).bind (·.dst) = some d) (hl : l g = true) (hφ : ∀ v, φ g v w → v = .bool z) :
    Region.wanted o (yielded ops.toArray a.tmps) = (z == b) := by
  cases hg : ops[g]? with
  | none => rw [hg] at hd; cases hd
  | some og =>
    rw [hg] at hd;obtain ⟨v, hv, hp⟩ := hF.vals g og d hl hg hd;rw [hφ v hp] at hv;have hd' : og.dst = some d := hd;simp [Region.wanted, ho, yielded, hg, hd', hv]
theorem stepG_yes (h : StepOk P ops Q a0 φ W i o) (hw : ∀ (s : σ) (l : Nat → Bool) (a : Act) (w : World), (∀ e ∈ o.after.toList, Region.binds .any e = true → l e.on = true) → FrOk ops a0 (φ s) l a w → Region.wanted o (yielded ops.toArray a.tmps) = true) : StepOkG P ops Q a0 φ W i o :=
  stepG_guard (fun s l a w hl hd hW hF _ => h s l a w hl hd hW hF) (fun s l a w hl hd hW hF hn => by rw [hw s l a w hd hF] at hn; cases hn)
theorem stepG_no (h : ∀ (s : σ) (l : Nat → Bool) (a : Act) (w : World), l i = false → W s l w → W s (upd l i) w ∧ φ s i undef w) (hw : ∀ (s : σ) (l : Nat → Bool) (a : Act) (w : World), (∀ e ∈ o.after.toList, Region.binds .any e = true → l e.on = true) → FrOk ops a0 (φ s) l a w → Region.wanted o (yielded ops.toArray a.tmps) = false) : StepOkG P ops Q a0 φ W i o :=
  stepG_guard (fun s l a w hl hd hW hF hn => by rw [hw s l a w hd hF] at hn; cases hn) (fun s l a w hl hd hW hF _ => h s l a w hl hW)
end
end Go.Proofs.Ythmldeningpjbaa
namespace Go.Proofs.Ythmldeningpjbaa
open Go
def loopsOf : Code → List Code
  | .loop c => c :: loopsOf c
  | .seq a b => loopsOf a ++ loopsOf b
  | .block _ c => loopsOf c
  | .scope c => loopsOf c
  | .cond _ a b => loopsOf a ++ loopsOf b
  | _ => []
noncomputable def loopBody (f : Func) (i : Nat) : Code := ((loopsOf (f.body.getD .skip))[i]?).getD .skip
end Go.Proofs.Ythmldeningpjbaa
namespace Go.Proofs.Ythmldeningpjbaa
open Go Go.RowKit
section
variable {w : World} {e : TypeId} {A B : Option Addr} {n c m d : Nat} {xs ys : List Value} {fp : List Nat} {P : Program}
theorem setCells_heap (g : Nat) {t : TypeId} : ∀ (ys : List Value) (o : Nat) (w : World) (cur : Array Value), w.heap[g]? = some (.cells cur t (0, 0)) →
    ∃ cur', (w.setCells g o ys).heap[g]? = some (.cells cur' t (0, 0)) ∧ cur'.size = cur.size ∧ (∀ j u, ys[j]? = some u → o + j < cur.size → cur'[o + j]? = some u) ∧ (∀ i, i < o → cur'[i]? = cur[i]?)
  | [], o, w, cur, h => ⟨cur, h, rfl, by simp, fun _ _ => rfl⟩
  | y :: ys, o, w, cur, h => by
    obtain ⟨cur', h1, h2, h3, h4⟩ := setCells_heap g ys (o + 1) (w.setCell ⟨g, o, none⟩ y) (cur.setIfInBounds o y) (hS_ h o y);refine ⟨cur', h1, by simpa using h2, fun j u hu hlt => ?_, fun i hi => ?_⟩
    · cases j with
      | zero =>
        simp only [List.getElem?_cons_zero, Option.some.injEq] at hu;subst hu;rw [Nat.add_zero, h4 o (by omega)];simp at hlt;simp [hlt]
      | succ j =>
        have := h3 j u (by simpa using hu) (by simp; omega)
        rwa [show o + 1 + j = o + (j + 1) from by omega] at this
    · rw [h4 i (by omega), Array.getElem?_setIfInBounds_ne (by omega)]
theorem setCells_keep {S : List Nat} (g : Nat) : ∀ (ys : List Value) (o : Nat) (w0 w : World), Keep S w0 w → (g ∈ S ∨ w0.heap.size ≤ g) → Keep S w0 (w.setCells g o ys)
  | [], _, _, _, h, _ => h
  | y :: ys, o, w0, _, h, hg => setCells_keep g ys (o + 1) w0 _ (h.setCell (p := ⟨g, o, none⟩) hg y) hg
theorem Rd.add_ {A : Option Addr} {n : Nat} {xs : List Value} (h : Rd w 1 A n xs) {ad : Addr} (he : A = some ad) : ∀ j u, xs[j]? = some u → w.cell? (ad.add j) = some u := by
  intro j u hu;have hl : 0 < n := by
    have := (List.getElem?_eq_some_iff.1 hu).1;have := h.1;omega
  obtain ⟨b, off, e1, _, hc⟩ := h.2 hl;rw [he] at e1;injection e1 with e1
  subst e1;have := hc j u hu;by_cases hj : j = 0
  · subst hj; simpa [Addr.add] using this
  · simpa [Addr.add, hj] using this
theorem run_append_As (t ty : TypeId) (i : TypeInfo) (z : Value) (bytes : Nat) (ht : P.underlying t = some (.slice e)) (hi : P.info? e = some i) (hz : i.zero = some z)
    (hsize : i.size = 1) (hby : i.bytes = bytes) (hzs : z.cells.size = 1) (hown : OwnA w e A n c xs fp) (hr : Rd w 1 B m ys) (h1 : ∀ u ∈ ys, u.oneCell' = true)
    (hn : n + m ≤ 1000000000000) (hbytes : bytes ≤ 100) :
    ∃ A' c' w' fp', (Builtin.append_ #[t, t] ty #[.slice A n c, .slice B m d]).run P w = .ok (.slice A' (n + m) c') w' ∧
      OwnA w' e A' (n + m) c' (xs ++ ys) fp' ∧ (∀ g ∈ fp', g ∈ fp ∨ w.heap.size = g) ∧ Keep fp w w' := by
  subst hby;have hym : ys.length = m := by have := hr.1; omega
  rcases Nat.eq_zero_or_pos m with hm | hm
  ·
    subst hm;obtain rfl : ys = [] := List.eq_nil_of_length_eq_zero hym;refine ⟨A, c, w, fp, ?_, by simpa using hown, fun g hg => .inl hg, Keep.refl _ _⟩;have hge := hown.ge;have hfc : (Builtin.firstCells i.size 0 (.slice B 0 d)).run P w = .ok #[] w := by
      cases B with
      | none => simp [Builtin.firstCells]
      | some b => simp [Builtin.firstCells, loadCells, loadCellsFrom]
    cases A with
    | none => simp [Builtin.append_, run_underlying ht, sizeOf, typeInfo, hi, Builtin.lenOf, hge, hfc]
    | some a => simp [Builtin.append_, run_underlying ht, sizeOf, typeInfo, hi, Builtin.lenOf, hge, hfc, storeCells]
  · obtain ⟨b, off, rfl, hb, hc⟩ := hr.2 hm;have hb1 : (n + m) * i.bytes ≤ 140737488355328 := Nat.le_trans (Nat.mul_le_mul hn hbytes) (by decide);have hnews := hr.add_ rfl;have hl : ys.length = m * i.size := by rw [hsize, hym, Nat.mul_one]
    have hmx : n + m ≤ maxLen := by simp only [maxLen]; omega
    have grown : ∀ (old : Nat) (olds : List Value), olds = xs →
        OwnA (w.drew.alloc (.cells (olds.toArray ++ ys.toArray ++ Builtin.zeroCells z.cells (grownCap w (n + m) old e - (n + m))) e)) e (some ⟨w.heap.size, 0, none⟩) (n + m) (grownCap w (n + m) old e) (xs ++ ys) [w.heap.size] := by
      rintro old olds rfl;have hge := grownCap_ge w (n + m) old e;have hcm : grownCap w (n + m) old e ≤ maxLen := grownCap_le_maxLen w (n + m) old e hmx;simp only [maxLen] at hcm;refine ⟨by simp [hown.1, hym], .inr ⟨_, 0, _, rfl, rfl, heap_alloc_new w.drew _, hge, hcm, ?_, ?_⟩⟩
      · simp only [Array.size_append, List.size_toArray, size_zeroCells, hzs, hown.1, hym];omega
      · intro j v hv;have hlt : j < (olds ++ ys).length := (List.getElem?_eq_some_iff.1 hv).1;rw [Nat.zero_add, Array.getElem?_append_left (by simpa using hlt)];simpa using hv
    have hkeep : ∀ o : Obj, Keep fp w (w.drew.alloc o) := fun o => ((Keep.refl fp w).drew).alloc o;rcases hown.2 with ⟨rfl, rfl, rfl, rfl⟩ | ⟨g, og, cur, rfl, rfl, hh, hnc, hcm, hcs, hat⟩
    · have hx : xs = [] := List.eq_nil_of_length_eq_zero hown.1;subst hx;have hrn := run_append_nil (P := P) w t ty e i z ht hi hz ⟨b, off, none⟩ m d ys hl hnews hm (by omega) (by simp at hb1; omega);have hg := grown 0 [] rfl;simp only [Nat.zero_add, List.nil_append, Array.empty_append] at hg ⊢;exact ⟨_, _, _, _, hrn, hg, fun y hy => .inr (List.mem_singleton.1 hy).symm, hkeep _⟩
    · by_cases hroom : n + m ≤ c
      · have hrn := run_append_room_cells (P := P) w t ty e i ht hi g og n c ⟨b, off, none⟩ m d ys hl hnews h1 hroom (by
          intro j hj;rw [hym] at hj;have hlt : og + n * i.size + j < cur.size := by rw [hsize]; omega
          rw [cOH hh, Array.getElem?_eq_getElem hlt];rfl) (fun j hj => fOH hh _)
        rw [hsize, Nat.mul_one] at hrn;obtain ⟨cur', g1, g2, g3, g4⟩ := setCells_heap g ys (og + n) w cur hh;refine ⟨some ⟨g, og, none⟩, c, _, [g], hrn, ⟨by simp [hown.1, hym], .inr ⟨g, og, cur', rfl, rfl, g1, hroom, hcm, by rw [g2]; exact hcs, ?_⟩⟩, fun y hy => .inl hy, setCells_keep g ys _ w w (Keep.refl _ _) (.inl (by simp))⟩;intro j v hv;rw [List.getElem?_append] at hv;split at hv
        · rename_i hj
          rw [g4 (og + j) (by have := hown.1; omega)];exact hat j v hv
        · rename_i hj
          have h5 := hown.1;have h6 := (List.getElem?_eq_some_iff.1 hv).1;have := g3 (j - xs.length) v hv (by omega)
          rwa [show og + n + (j - xs.length) = og + j from by omega] at this
      · have holds : ∀ j v, xs[j]? = some v → w.cell? ((⟨g, og, none⟩ : Addr).add j) = some v := by
          intro j v hv;rw [show (⟨g, og, none⟩ : Addr).add j = ⟨g, og + j, none⟩ from by simp [Addr.add]];exact (cOH hh _).trans (hat j v hv)
        have hrn := run_append_grow (P := P) w t ty e i z ht hi hz ⟨g, og, none⟩ n c xs (by simp [hown.1, hsize]) holds ⟨b, off, none⟩ m d ys hl hnews (by omega) (by omega) (growslice_fits (by omega) hb1);exact ⟨_, _, _, _, hrn, grown c xs rfl, fun y hy => .inr (List.mem_singleton.1 hy).symm, hkeep _⟩
theorem wp_append_As {o : Oper} {a : Act} {K : Act → World → Prop} {Q : Exit → Act → World → Prop} (s x : Operand) (t : TypeId)
    (ho : o.op = .call { callee := .builtin .append, args := #[s, x], argTypes := #[t, t] })
    (i : TypeInfo) (z : Value) (bytes : Nat) (ht : P.underlying t = some (.slice e)) (hi : P.info? e = some i) (hz : i.zero = some z)
    (hsize : i.size = 1) (hby : i.bytes = bytes) (hzs : z.cells.size = 1) (hs : a.eval s = .slice A n c) (hx : a.eval x = .slice B m d)
    (hown : OwnA w e A n c xs fp) (hr : Rd w 1 B m ys) (h1 : ∀ u ∈ ys, u.oneCell' = true)
    (hn : n + m ≤ 1000000000000) (hbytes : bytes ≤ 100)
    (h : ∀ A' c' w' fp', OwnA w' e A' (n + m) c' (xs ++ ys) fp' → (∀ g ∈ fp', g ∈ fp ∨ w.heap.size = g) → Keep fp w w' → K (a.put o.dst (.slice A' (n + m) c')) w') : o.wp P a w K Q := by
  obtain ⟨A', c', w', fp', hrn, h2, h3, h4⟩ := run_append_As (P := P) (d := d) t o.type i z bytes ht hi hz hsize hby hzs hown hr h1 hn hbytes;unfold Oper.wp execOp;simp only [ho, resolve, invoke, builtin, Sem.run_bind, Sem.run_pure, Result.andThen_ok, List.map_toArray, List.map_cons, List.map_nil, hs, hx, hrn];exact h A' c' w' fp' h2 h3 h4
theorem wpList_append_As {ops : Array Oper} {rest : List Oper} {o : Oper} {a : Act} {Q : Exit → Act → World → Prop} (hgd : o.guard = none) (s x : Operand) (t : TypeId)
    (ho : o.op = .call { callee := .builtin .append, args := #[s, x], argTypes := #[t, t] })
    (i : TypeInfo) (z : Value) (bytes : Nat) (ht : P.underlying t = some (.slice e)) (hi : P.info? e = some i) (hz : i.zero = some z)
    (hsize : i.size = 1) (hby : i.bytes = bytes) (hzs : z.cells.size = 1) (hs : a.eval s = .slice A n c) (hx : a.eval x = .slice B m d)
    (hown : OwnA w e A n c xs fp) (hr : Rd w 1 B m ys) (h1 : ∀ u ∈ ys, u.oneCell' = true)
    (hn : n + m ≤ 1000000000000) (hbytes : bytes ≤ 100)
    (h : ∀ A' c' w' fp', OwnA w' e A' (n + m) c' (xs ++ ys) fp' → (∀ g ∈ fp', g ∈ fp ∨ w.heap.size = g) → Keep fp w w' → wpList P ops Q rest (a.put o.dst (.slice A' (n + m) c')) w') : wpList P ops Q (o :: rest) a w :=
  wpList_plain hgd fun _ hK => wp_append_As s x t ho i z bytes ht hi hz hsize hby hzs hs hx hown hr h1 hn hbytes fun A' c' w' fp' h2 h3 h4 => hK _ _ (h A' c' w' fp' h2 h3 h4)
def noughts (n : Nat) : Array Value := (List.replicate n (Value.int .i64 0)).toArray
theorem run_make_ints (t : TypeId) (i : TypeInfo) (ht : P.underlying t = some (.slice e)) (hi : P.info? e = some i) (hz : i.zero = some (.int .i64 0)) (hsize : i.size = 1) (hby : i.bytes = 8) (n : Nat) (hn : n ≤ 1000000) (w : World) :
    (Instr.makeSlice t (.int .i64 (n : Int)) (.int .i64 (n : Int))).run P w = .ok (.slice (some ⟨w.heap.size, 0, none⟩) n n) (w.alloc (.cells (noughts n) e)) := by
  have hr := run_make (P := P) w t e i (.int .i64 0) ht hi hz .i64 .i64 n n (by omega) (Int.le_refl _) (by rw [hby]; omega) (by omega);simp only [Int.toNat_natCast, hsize, Nat.mul_one] at hr;rw [hr]
  congr 3
  apply Array.ext';rw [show (Value.int IntKind.i64 0).cells = #[Value.int .i64 0] from rfl, toList_madeCells_one];simp [noughts]
end
end Go.Proofs.Ythmldeningpjbaa
