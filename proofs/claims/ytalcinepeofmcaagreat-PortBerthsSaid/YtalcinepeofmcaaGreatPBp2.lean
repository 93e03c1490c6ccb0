import Derived.Orders
import Derived.KernelRfl
import Derived.WalkKit
import Derived.Test.YtalcinepeofmcaaGreatPBp1
import Derived.Test.YtalcinepeofmcaaGreatPBp0
import Derived.Test.YtalcinepeofmcaaGreatProg
set_option linter.unusedVariables false
set_option linter.unusedSimpArgs false
set_option maxRecDepth 100000
set_option maxHeartbeats 40000000
namespace Go.Proofs.YtalcinepeofmcaaGreat
open Go
def upd (l : Nat → Bool) (i : Nat) : Nat → Bool := fun j => if j = i then true else l j
def cntFalse (f : Nat → Bool) : Nat → Nat
  | 0 => 0
  | n + 1 => cntFalse f n + (if f n then 0 else 1)
theorem cntFalse_congr {f g : Nat → Bool} : ∀ n, (∀ j, j < n → f j = g j) → cntFalse f n = cntFalse g n
  | 0, _ => rfl
  | n + 1, h => by rw [cntFalse, cntFalse, cntFalse_congr n (fun j hj => h j (by omega)), h n (by omega)]
theorem cntFalse_upd {f : Nat → Bool} {i : Nat} (hf : f i = false) : ∀ n, i < n → cntFalse (upd f i) n + 1 = cntFalse f n
  | 0, h => absurd h (by omega)
  | n + 1, h => by
    by_cases hi : i = n
    · subst hi;rw [cntFalse, cntFalse, cntFalse_congr i (fun j hj => by simp [upd]; omega : ∀ j, j < i → upd f i j = f j)];simp [upd, hf]
    · rw [cntFalse, cntFalse];have := cntFalse_upd hf n (by omega);have hn : upd f i n = f n := by simp [upd]; omega
      rw [hn];omega
theorem cntFalse_zero {f : Nat → Bool} : ∀ n, cntFalse f n = 0 → ∀ j, j < n → f j = true
  | 0, _, j, hj => absurd hj (by omega)
  | n + 1, h, j, hj => by
    rw [cntFalse] at h;have h1 : f n = true := by
      cases hfn : f n with
      | true => rfl
      | false => rw [hfn] at h; simp at h
    by_cases hjn : j = n
    · subst hjn; exact h1
    · exact cntFalse_zero n (by omega) j (by omega)
theorem cntFalse_le (f : Nat → Bool) : ∀ n, cntFalse f n ≤ n
  | 0 => Nat.le_refl _
  | n + 1 => by rw [cntFalse]; have := cntFalse_le f n; split <;> omega
structure FrOk (ops : List Oper) (a0 : Act) (φ : Nat → Value → World → Prop) (l : Nat → Bool) (a : Act) (w : World) : Prop where
  defers : a.defers = a0.defers
  size : a.tmps.size = a0.tmps.size
  other : ∀ t, (∀ j o, ops[j]? = some o → o.dst = some t → l j = false) → a.tmps[t]? = a0.tmps[t]?
  vals : ∀ j o d, l j = true → ops[j]? = some o → o.dst = some d → ∃ v, a.tmps[d]? = some v ∧ φ j v w
  closed : ∀ j o, l j = true → ops[j]? = some o → ∀ e ∈ o.after.toList, Region.binds .any e = true → l e.on = true
def regionOk (ops : List Oper) (n : Nat) : Bool :=
  (ops.filterMap (·.dst)).Nodup && (ops.filterMap (·.dst)).all (· < n) && ops.zipIdx.all (fun p => p.1.guard.isNone && p.1.after.toList.all fun e => !Region.binds .any e || decide (e.on < p.2))
theorem nodup_dst : ∀ {ops : List Oper}, (ops.filterMap (fun o => o.dst)).Nodup → ∀ {i j : Nat} {o o' : Oper} {d : Nat}, ops[i]? = some o → ops[j]? = some o' → o.dst = some d → o'.dst = some d → i = j
  | [], _, i, j, o, o', d, hi, _, _, _ => by simp at hi
  | x :: xs, h, i, j, o, o', d, hi, hj, ho, ho' => by
    have hx : (xs.filterMap (·.dst)).Nodup := by
      cases hxd : x.dst with
      | none => simpa [List.filterMap_cons, hxd] using h
      | some y => rw [List.filterMap_cons, hxd] at h; exact (List.nodup_cons.1 h).2
    have hmem : ∀ {k : Nat} {p : Oper}, xs[k]? = some p → p.dst = some d → x.dst ≠ some d := by
      intro k p hk hp hxd;rw [List.filterMap_cons, hxd] at h;exact (List.nodup_cons.1 h).1 (List.mem_filterMap.2 ⟨p, List.mem_of_getElem? hk, hp⟩)
    cases i with
    | zero =>
      cases j with
      | zero => rfl
      | succ j =>
        simp only [List.getElem?_cons_zero, Option.some.injEq] at hi;subst hi;exact absurd ho (hmem (by simpa using hj) ho')
    | succ i =>
      cases j with
      | zero =>
        simp only [List.getElem?_cons_zero, Option.some.injEq] at hj;subst hj;exact absurd ho' (hmem (by simpa using hi) ho)
      | succ j =>
        have := nodup_dst hx (i := i) (j := j) (by simpa using hi) (by simpa using hj) ho ho';omega
def AllFrom (f : Nat → Oper → Prop) : Nat → List Oper → Prop
  | _, [] => True
  | k, o :: os => f k o ∧ AllFrom f (k + 1) os
theorem allFrom_get {f : Nat → Oper → Prop} : ∀ {ops : List Oper} {k : Nat}, AllFrom f k ops → ∀ i o, ops[i]? = some o → f (k + i) o
  | [], _, _, i, o, h => by simp at h
  | x :: xs, k, ⟨h1, h2⟩, i, o, h => by
    cases i with
    | zero =>
      simp only [List.getElem?_cons_zero, Option.some.injEq] at h;subst h;exact h1
    | succ i =>
      have := allFrom_get h2 i o (by simpa using h)
      rwa [show k + 1 + i = k + (i + 1) from by omega] at this
theorem wp_region_inv {σ : Type} {P : Program} {ops : List Oper} {Q : Exit → Act → World → Prop} {id : Nat} {a0 : Act} {w0 : World} (hm : P.follows .mixedOrders = true)
    (hok : regionOk ops a0.tmps.size = true)
    (φ : σ → Nat → Value → World → Prop) (W : σ → (Nat → Bool) → World → Prop) (s0 : σ) (h0 : W s0 (fun _ => false) w0.drew)
    (hstep : ∀ i o, ops[i]? = some o → ∀ s l a w, l i = false → (∀ e ∈ o.after.toList, Region.binds .any e = true → l e.on = true) → W s l w → FrOk ops a0 (φ s) l a w →
      o.wp P a w (fun a' w' => ∃ s' v, a' = a.put o.dst v ∧ W s' (upd l i) w' ∧ (o.dst.isSome = true → φ s' i v w') ∧ (∀ j u, l j = true → φ s j u w → φ s' j u w')) Q)
    (hfin : ∀ s a w, W s (fun j => decide (j < ops.length)) w → FrOk ops a0 (φ s) (fun j => decide (j < ops.length)) a w → Q .normal a w) :
    (Code.region id ops.toArray true).wp P Q a0 w0 := by
  simp only [regionOk, Bool.and_eq_true, decide_eq_true_eq] at hok;obtain ⟨⟨hnd, hltB⟩, hgB⟩ := hok;have hlt : ∀ (o : Oper) (d : Nat), o ∈ ops → o.dst = some d → d < a0.tmps.size := fun o d ho hd => by
    have := List.all_eq_true.1 hltB d (List.mem_filterMap.2 ⟨o, ho, hd⟩);simpa using this
  have hg : ∀ i o, ops[i]? = some o → o.guard = none ∧ ∀ e ∈ o.after.toList, Region.binds .any e = true → e.on < i := fun i o ho => by
    have := List.all_eq_true.1 hgB (o, i) (List.mem_zipIdx_iff_getElem?.2 ho);simp only [Bool.and_eq_true, Option.isNone_iff_eq_none] at this;refine ⟨this.1, fun e he hb => ?_⟩;have h2 := List.all_eq_true.1 this.2 e he;simpa [hb] using h2
  have hsz : ops.toArray.size = ops.length := by simp
  have hall : ∀ listed : Array Bool, listed.size = ops.length → Region.ready .any ops.toArray listed = [] → ∀ n, ∀ j, j < n → j < ops.length → listed.getD j false = true := by
    intro listed hls hr n;induction n with
    | zero => intro j hj; omega
    | succ n ih =>
      intro j hj hjl;by_cases hjn : j < n
      · exact ih j hjn hjl
      · obtain rfl : j = n := by omega
        cases hl : listed.getD j false with
        | true => rfl
        | false =>
          exfalso;have hl' : listed.getD j true = false ∨ listed.size ≤ j := by
            rcases Nat.lt_or_ge j listed.size with h | h
            · left; simp [h] at hl ⊢; exact hl
            · exact .inr h
          have ho : ops[j]? = some ops[j] := List.getElem?_eq_getElem hjl;rcases hl' with hl' | hl'
          · have : j ∈ Region.ready .any ops.toArray listed := mem_ready.2 ⟨hl', ops[j], by simp [hjl], fun e he hb => ih e.on ((hg j _ ho).2 e (by simpa using he) hb) (by have := (hg j _ ho).2 e (by simpa using he) hb; omega)⟩;rw [hr] at this;cases this
          · omega
  have main : ∀ fuel (listed : Array Bool) (a : Act) (w : World) (s : σ), listed.size = ops.length → cntFalse (fun j => listed.getD j false) ops.length ≤ fuel → W s (fun j => listed.getD j false) w → FrOk ops a0 (φ s) (fun j => listed.getD j false) a w →
      wpAny P .any ops.toArray Q fuel listed a w := by
    intro fuel;have hend : ∀ (listed : Array Bool) (a : Act) (w : World) (s : σ), listed.size = ops.length → (∀ j, j < ops.length → listed.getD j false = true) → W s (fun j => listed.getD j false) w → FrOk ops a0 (φ s) (fun j => listed.getD j false) a w → Q .normal a w := by
      intro listed a w s hs hl hW hF;have he : (fun j => listed.getD j false) = fun j => decide (j < ops.length) := by
        funext j
        by_cases hj : j < ops.length
        · rw [hl j hj]; simp [hj]
        · simp [hj, hs]
      rw [he] at hW hF;exact hfin s a w hW hF
    induction fuel with
    | zero =>
      intro listed a w s hs hc hW hF;have hl := cntFalse_zero ops.length (Nat.le_zero.1 hc);refine ⟨?_, hend listed a w s hs hl hW hF⟩;apply List.eq_nil_iff_forall_not_mem.2;intro i hi;obtain ⟨h1, o, ho, _⟩ := mem_ready.1 hi;have hil : i < ops.length := by simpa using (Array.getElem?_eq_some_iff.1 ho).1
      have h2 := hl i hil;have : i < listed.size := by omega
      simp [this] at h1 h2;rw [h2] at h1;cases h1
    | succ fuel ih =>
      intro listed a w s hs hc hW hF;refine ⟨fun hr => hend listed a w s hs (fun j hj => hall listed hs hr (j + 1) j (by omega) hj) hW hF, fun i hi => ?_⟩;obtain ⟨h1, o, ho, hdep⟩ := mem_ready.1 hi;have hil : i < ops.length := by simpa using (Array.getElem?_eq_some_iff.1 ho).1
      have ho' : ops[i]? = some o := by rw [← ho]; simp
      have hli : i < listed.size := by omega
      have hl0 : listed.getD i false = false := by simp [hli] at h1 ⊢; exact h1
      have hst := hstep i o ho' s (fun j => listed.getD j false) a w hl0 (fun e he hb => hdep e (by simpa using he) hb) hW hF;unfold wpOp;rw [ho];simp only [Region.wanted, (hg i o ho').1, if_true];refine .inl (Oper.wp_mono ?_ hst);rintro a' w' ⟨s', v, rfl, hW', hφ, hstab⟩;have hupd : (fun j => (listed.setIfInBounds i true).getD j false) = upd (fun j => listed.getD j false) i := by
        funext j
        simp only [upd];split
        · rename_i hj; subst hj; simp [hli]
        · rename_i hj; rw [getD_set_ne false (Ne.symm hj)]
      have hcl : ∀ j o', upd (fun j => listed.getD j false) i j = true → ops[j]? = some o' → ∀ e ∈ o'.after.toList, Region.binds .any e = true → upd (fun j => listed.getD j false) i e.on = true := by
        intro j o' hj ho'' e he hb;have hold : (listed.getD e.on false) = true → upd (fun j => listed.getD j false) i e.on = true := fun h => by simp only [upd]; split <;> first | rfl | exact h
        by_cases hji : j = i
        · subst hji;rw [ho'] at ho'';injection ho'' with e1
          subst e1;exact hold (hdep e (by simpa using he) hb)
        · have hj' : listed.getD j false = true := by simpa [upd, hji] using hj
          exact hold (hF.closed j o' hj' ho'' e he hb)
      have hF' : FrOk ops a0 (φ s') (upd (fun j => listed.getD j false) i) (a.put o.dst v) w' := by
        cases hd : o.dst with
        | none =>
          refine ⟨hF.defers, hF.size, fun t ht => hF.other t (fun j o' hj hd' => by have := ht j o' hj hd'; simp only [upd] at this; split at this <;> first | exact this | cases this), fun j o' d hj ho'' hd' => ?_, hcl⟩;have hji : j ≠ i := by
            rintro rfl;rw [ho'] at ho'';injection ho'' with e
            rw [← e, hd] at hd';cases hd'
          have hj' : listed.getD j false = true := by simpa [upd, hji] using hj
          obtain ⟨u, hu, hp⟩ := hF.vals j o' d hj' ho'' hd';exact ⟨u, hu, hstab j u hj' hp⟩
        | some d0 =>
          refine ⟨hF.defers, by simp [Act.put, hF.size], fun t ht => ?_, fun j o' d hj ho'' hd' => ?_, hcl⟩
          · have : d0 ≠ t := fun e => by
              have := ht i o ho' (by rw [hd, e]);simp [upd] at this
            simp only [Act.put];rw [Array.getElem?_setIfInBounds_ne this];exact hF.other t (fun j o' hj hd' => by have := ht j o' hj hd'; simp only [upd] at this; split at this <;> first | exact this | cases this)
          · by_cases hji : j = i
            · subst hji;rw [ho'] at ho'';injection ho'' with e
              subst e;rw [hd] at hd';injection hd' with e
              subst e;have hlt' : d0 < a.tmps.size := by rw [hF.size]; exact hlt o d0 (List.mem_of_getElem? ho') hd
              exact ⟨v, by simp [Act.put, hlt'], hφ (by rw [hd]; rfl)⟩
            · have hj' : listed.getD j false = true := by simpa [upd, hji] using hj
              obtain ⟨u, hu, hp⟩ := hF.vals j o' d hj' ho'' hd';have hne : d0 ≠ d := by
                rintro rfl;exact hji (nodup_dst hnd ho'' ho' hd' hd)
              refine ⟨u, ?_, hstab j u hj' hp⟩;simp only [Act.put];rw [Array.getElem?_setIfInBounds_ne hne];exact hu
      refine ih _ _ _ s' (by simp [hs]) ?_ (by rw [hupd]; exact hW') (by rw [hupd]; exact hF');rw [hupd];have := cntFalse_upd (f := fun j => listed.getD j false) hl0 ops.length hil;omega
  refine wp_region_any hm ?_;rw [hsz];have hf : (fun j => (Array.replicate ops.length false).getD j false) = fun _ => false := by
    funext j
    rcases Nat.lt_or_ge j ops.length with h | h <;> simp [h]
  refine main ops.length _ a0 w0.drew s0 (by simp) (cntFalse_le _ _) (by rw [hf]; exact h0) ?_;exact ⟨rfl, rfl, fun _ _ => rfl, fun j o d hj => (by rw [congrFun hf j] at hj; cases hj), fun j o hj => (by rw [congrFun hf j] at hj; cases hj)⟩
def StepOk {σ : Type} (P : Program) (ops : List Oper) (Q : Exit → Act → World → Prop) (a0 : Act) (φ : σ → Nat → Value → World → Prop) (W : σ → (Nat → Bool) → World → Prop) (i : Nat) (o : Oper) : Prop :=
  ∀ s l a w, l i = false → (∀ e ∈ o.after.toList, Region.binds .any e = true → l e.on = true) → W s l w → FrOk ops a0 (φ s) l a w →
      o.wp P a w (fun a' w' => ∃ s' v, a' = a.put o.dst v ∧ W s' (upd l i) w' ∧ (o.dst.isSome = true → φ s' i v w') ∧ (∀ j u, l j = true → φ s j u w → φ s' j u w')) Q
theorem wRS {σ : Type} {P : Program} {ops : List Oper} {Q : Exit → Act → World → Prop} {id : Nat} {a0 : Act} {w0 : World} (hm : P.follows .mixedOrders = true)
    (hok : regionOk ops a0.tmps.size = true)
    (φ : σ → Nat → Value → World → Prop) (W : σ → (Nat → Bool) → World → Prop) (s0 : σ) (h0 : W s0 (fun _ => false) w0.drew)
    (hstep : AllFrom (StepOk P ops Q a0 φ W) 0 ops)
    (hfin : ∀ s a w, W s (fun j => decide (j < ops.length)) w → FrOk ops a0 (φ s) (fun j => decide (j < ops.length)) a w → Q .normal a w) :
    (Code.region id ops.toArray true).wp P Q a0 w0 :=
  wp_region_inv hm hok φ W s0 h0 (fun i o ho => by have := allFrom_get hstep i o ho; rwa [Nat.zero_add] at this) hfin
theorem sP_ {σ : Type} {P : Program} {ops : List Oper} {Q : Exit → Act → World → Prop} {a0 : Act} {φ : σ → Nat → Value → World → Prop} {W : σ → (Nat → Bool) → World → Prop} {i : Nat} {o : Oper}
    (h : ∀ s l a w, l i = false → (∀ e ∈ o.after.toList, Region.binds .any e = true → l e.on = true) → W s l w → FrOk ops a0 (φ s) l a w →
      W s (upd l i) w ∧ ∃ v, (execOp a.eval o).run P w = .ok (.value v) w ∧ φ s i v w) : StepOk P ops Q a0 φ W i o := by
  intro s l a w hl hd hW hF;obtain ⟨hW', v, hr, hp⟩ := h s l a w hl hd hW hF;unfold Oper.wp;rw [hr];exact ⟨s, v, rfl, hW', fun _ => hp, fun _ _ _ h => h⟩
theorem sR_ {σ : Type} {P : Program} {ops : List Oper} {Q : Exit → Act → World → Prop} {a0 : Act} {φ : σ → Nat → Value → World → Prop} {W : σ → (Nat → Bool) → World → Prop} {i : Nat} {o : Oper}
    (h : ∀ s l a w, l i = false → (∀ e ∈ o.after.toList, Region.binds .any e = true → l e.on = true) → W s l w → FrOk ops a0 (φ s) l a w →
      ∃ v w' s', (execOp a.eval o).run P w = .ok (.value v) w' ∧ W s' (upd l i) w' ∧ φ s' i v w' ∧ (∀ j u, l j = true → φ s j u w → φ s' j u w')) : StepOk P ops Q a0 φ W i o := by
  intro s l a w hl hd hW hF;obtain ⟨v, w', s', hr, hW', hp, hst⟩ := h s l a w hl hd hW hF;unfold Oper.wp;rw [hr];exact ⟨s', v, rfl, hW', fun _ => hp, hst⟩
theorem sS_ {σ : Type} {P : Program} {ops : List Oper} {Q : Exit → Act → World → Prop} {a0 : Act} {φ : σ → Nat → Value → World → Prop} {W : σ → (Nat → Bool) → World → Prop} {i : Nat} {o : Oper} (hn : o.dst = none)
    (h : ∀ s l a w, l i = false → (∀ e ∈ o.after.toList, Region.binds .any e = true → l e.on = true) → W s l w → FrOk ops a0 (φ s) l a w →
      ∃ w' s' r, (execOp a.eval o).run P w = .ok r w' ∧ (r = .skip ∨ ∃ v, r = .value v) ∧ W s' (upd l i) w' ∧ (∀ j u, l j = true → φ s j u w → φ s' j u w')) : StepOk P ops Q a0 φ W i o := by
  intro s l a w hl hd hW hF;obtain ⟨w', s', r, hr, hr', hW', hst⟩ := h s l a w hl hd hW hF;unfold Oper.wp;rw [hr];rcases hr' with rfl | ⟨v, rfl⟩
  · exact ⟨s', undef, rfl, hW', fun hs => (by rw [hn] at hs; cases hs), hst⟩
  · exact ⟨s', v, rfl, hW', fun hs => (by rw [hn] at hs; cases hs), hst⟩
theorem sC_ {σ : Type} {P : Program} {ops : List Oper} {Q : Exit → Act → World → Prop} {a0 : Act} {φ : σ → Nat → Value → World → Prop} {W : σ → (Nat → Bool) → World → Prop} {i : Nat} {o : Oper}
    (h : ∀ s l a w, l i = false → (∀ e ∈ o.after.toList, Region.binds .any e = true → l e.on = true) → W s l w → FrOk ops a0 (φ s) l a w →
      ∃ f args, (execOp a.eval o).run P w = .ok (.enter f args) w ∧ Calls P f args w fun e w' => ∃ v s', e = .returned v ∧ W s' (upd l i) w' ∧ φ s' i v w' ∧ (∀ j u, l j = true → φ s j u w → φ s' j u w')) : StepOk P ops Q a0 φ W i o := by
  intro s l a w hl hd hW hF;obtain ⟨f, args, hr, hc⟩ := h s l a w hl hd hW hF;unfold Oper.wp;rw [hr, Oper.upon_enter];refine hc.mono ?_;rintro e w' ⟨v, s', rfl, hW', hp, hst⟩;exact ⟨s', v, rfl, hW', fun _ => hp, hst⟩
section
variable {ops : List Oper} {a0 : Act} {φ : Nat → Value → World → Prop} {l : Nat → Bool} {a : Act} {w : World}
theorem FrOk.notYet (h : FrOk ops a0 φ l a w) (i j : Nat) (hi : l i = false) (hw : ((ops[j]?).map fun o => o.after.toList.any fun e => Region.binds .any e && e.on == i) = some true) : l j = false := by
  cases hj : l j with
  | false => rfl
  | true =>
    cases ho : ops[j]? with
    | none => rw [ho] at hw; cases hw
    | some o =>
      rw [ho] at hw;simp only [Option.map_some, Option.some.injEq] at hw;obtain ⟨e, he, hb⟩ := List.any_eq_true.1 hw;simp only [Bool.and_eq_true, beq_iff_eq] at hb;have := h.closed j o hj ho e he hb.1;rw [hb.2, hi] at this;cases this
theorem FrOk.old (h : FrOk ops a0 φ l a w) (t : Nat) (ht : ops.all (fun o => decide (o.dst ≠ some t)) = true) : a.eval (.tmp t) = a0.eval (.tmp t) := by
  have := h.other t (fun j o ho hd => absurd hd (by simpa using List.all_eq_true.1 ht o (List.mem_of_getElem? ho)));simp only [Act.eval, Array.getD_eq_getD_getElem?, this]
theorem FrOk.new (h : FrOk ops a0 φ l a w) (j d : Nat) (hl : l j = true) (hd : (ops[j]?).bind (·.dst) = some d) : φ j (a.eval (.tmp d)) w := by
  cases ho : ops[j]? with
  | none => rw [ho] at hd; cases hd
  | some o =>
    rw [ho] at hd;obtain ⟨v, hv, hp⟩ := h.vals j o d hl ho hd;simpa [Act.eval, Array.getD_eq_getD_getElem?, hv] using hp
theorem foldl_set (f : Nat → Value) : ∀ (ts : List Nat) (z : Array Value), (ts.foldl (fun z t => z.setIfInBounds t (f t)) z).size = z.size ∧
    ∀ i, i < z.size → (ts.foldl (fun z t => z.setIfInBounds t (f t)) z)[i]? = if i ∈ ts then some (f i) else z[i]?
  | [], z => ⟨rfl, fun i _ => by simp⟩
  | t :: ts, z => by
    obtain ⟨h1, h2⟩ := foldl_set f ts (z.setIfInBounds t (f t));refine ⟨by simpa using h1, fun i hi => ?_⟩;have := h2 i (by simpa using hi);simp only [List.foldl_cons];rw [this];by_cases hts : i ∈ ts
    · simp [hts]
    · by_cases hit : t = i
      · subst hit; simp [hts, hi]
      · simp [hts, Array.getElem?_setIfInBounds_ne hit, Ne.symm hit]
theorem FrOk.lit (h : FrOk ops a0 φ (fun j => decide (j < ops.length)) a w) : ∃ f : Nat → Value, (∀ t, f t = a.eval (.tmp t)) ∧ a = { tmps := (ops.filterMap (fun o => o.dst)).foldl (fun z t => z.setIfInBounds t (f t)) a0.tmps, defers := a0.defers } := by
  refine ⟨fun t => a.eval (.tmp t), fun _ => rfl, ?_⟩;obtain ⟨h1, h2⟩ := foldl_set (fun t => a.eval (.tmp t)) (ops.filterMap (fun o => o.dst)) a0.tmps;have ht : a.tmps = (ops.filterMap (fun o => o.dst)).foldl (fun z t => z.setIfInBounds t (a.eval (.tmp t))) a0.tmps := by
    apply Array.ext_getElem?;intro i;rcases Nat.lt_or_ge i a0.tmps.size with hi | hi
    · rw [h2 i hi];split
      · simp [Act.eval, Array.getD_eq_getD_getElem?, h.size, hi]
      · rename_i hn
        exact h.other i (fun j o ho hd => absurd (List.mem_filterMap.2 ⟨o, List.mem_of_getElem? ho, hd⟩) hn)
    · rw [Array.getElem?_eq_none (by rw [h.size]; exact hi), Array.getElem?_eq_none (by rw [h1]; exact hi)]
  obtain ⟨tm, df⟩ := a;have hdf := h.defers;simp only at ht hdf ⊢;rw [hdf]
  congr 1
end
end Go.Proofs.YtalcinepeofmcaaGreat
namespace Go.Proofs.YtalcinepeofmcaaGreat
open Go Go.RowKit Sp
structure ApC where
  ib : Nat
  lb : Nat
  k0 : Nat
  A0 : Option Addr
  c0 : Nat
  l0 : List Int
  ob : Nat
  e : TypeId
  sz : Nat
  k : Nat
  A : Option Addr
  c : Nat
  xs : List Value
  q : List Nat
  ys : List Value
  old : Array Value
  new : Option Addr → Nat → Array Value
  t : TypeId
structure ApS where
  bs : Nat
  A : Option Addr
  c : Nat
  g : Nat
section
variable {C : ApC} {opB opA opS : Nat} {cnt : (Nat → Bool) → Nat} {W0 w w' : World} {s : ApS} {l : Nat → Bool}
theorem upd_ne {l : Nat → Bool} {i j : Nat} (h : i ≠ j) : upd l i j = l j := by simp [upd, Ne.symm h]
theorem upd_eq {l : Nat → Bool} {i : Nat} : upd l i i = true := by simp [upd]
end
end Go.Proofs.YtalcinepeofmcaaGreat
namespace Go.Proofs.YtalcinepeofmcaaGreat
open Go Go.RowKit Sp
inductive It where
  | blk (b : Nat) (o : Obj)
  | own (e : TypeId) (sz : Nat) (A : Option Addr) (n c : Nat) (xs : List Value) (q : List Nat)
  | nx (ib lb : Nat)
  | any (b : Nat)
  | gen (q : List Nat) (P : World → Prop)
def It.fp : It → List Nat
  | .blk b _ => [b]
  | .own _ _ _ _ _ _ q => q
  | .nx ib lb => [ib, lb]
  | .any b => [b]
  | .gen q _ => q
def It.holds (D : Nat) (w : World) : It → Prop
  | .blk b o => w.heap[b]? = some o
  | .own e sz A n c xs q => OwnS w e sz A n c xs q
  | .nx ib lb => NxS D w ib lb
  | .any b => b < w.heap.size
  | .gen q P => (∀ x ∈ q, x < w.heap.size) ∧ ∀ (S : List Nat) (w' : World), Keep S w w' → (∀ x ∈ S, x ∉ q) → P w'
theorem It.lt {D : Nat} {w : World} {i : It} (h : i.holds D w) : ∀ x ∈ i.fp, x < w.heap.size := by
  intro x hx;cases i with
  | blk b o => rw [List.mem_singleton.1 hx]; exact hL_ h
  | own e sz A n c xs q => exact OwnS.lt h x hx
  | nx ib lb =>
    have := NxS.lt h;simp only [It.fp, List.mem_cons, List.not_mem_nil, or_false] at hx;rcases hx with rfl | rfl <;> omega
  | any b => rw [List.mem_singleton.1 hx]; exact h
  | gen q P => exact h.1 x hx
theorem It.keep {D : Nat} {w w' : World} {i : It} {S : List Nat} (h : i.holds D w) (hk : Keep S w w') (hS : ∀ x ∈ i.fp, x ∉ S) (hD : ∀ x ∈ S, D ≤ x) : i.holds D w' := by
  cases i with
  | blk b o => exact (hk.block _ (hL_ h) (hS b (by simp [It.fp]))).trans h
  | own e sz A n c xs q => exact OwnS.keepS h hk hS
  | nx ib lb => exact NxS.keep h hk fun x hx => ⟨hD x hx, fun e => hS ib (by simp [It.fp]) (e ▸ hx), fun e => hS lb (by simp [It.fp]) (e ▸ hx)⟩
  | any b => exact Nat.lt_of_lt_of_le h hk.size
  | gen q P =>
    refine ⟨fun x hx => Nat.lt_of_lt_of_le (h.1 x hx) hk.size, fun S' w'' hk' hS' => h.2 (S ++ S') w'' ?_ ?_⟩
    · exact (hk.mono (fun x hx => .inl (by simp [hx]))).trans hk' (fun x hx => .inl (by simp [hx]))
    · intro x hx hm;rcases List.mem_append.1 hx with e | e
      · exact hS x hm e
      · exact hS' x e hm
structure Own (D : Nat) (W0 : World) (L : List It) (w : World) : Prop where
  bel : Below D W0 w
  lo : D ≤ w.heap.size
  at_ : ∀ (a : Nat) (i : It), L[a]? = some i → i.holds D w ∧ ∀ x ∈ i.fp, D ≤ x
  dis : ∀ (a b : Nat) (i j : It), L[a]? = some i → L[b]? = some j → a ≠ b → ∀ x ∈ i.fp, x ∉ j.fp
section
variable {D : Nat} {W0 w w' : World} {L : List It}
theorem Own.get (h : Own D W0 L w) (a : Nat) {i : It} (hi : L[a]? = some i) : i.holds D w := (h.at_ a i hi).1
theorem Own.heap (h : Own D W0 L w) (a : Nat) {b : Nat} {o : Obj} (hi : L[a]? = some (.blk b o)) : w.heap[b]? = some o := (h.at_ a _ hi).1
theorem Own.owns (h : Own D W0 L w) (a : Nat) {e : TypeId} {sz : Nat} {A : Option Addr} {n c : Nat} {xs : List Value} {q : List Nat} (hi : L[a]? = some (.own e sz A n c xs q)) : OwnS w e sz A n c xs q := (h.at_ a _ hi).1
theorem Own.ge (h : Own D W0 L w) (a : Nat) {i : It} (hi : L[a]? = some i) {x : Nat} (hx : x ∈ i.fp) : D ≤ x := (h.at_ a i hi).2 x hx
theorem Own.lt (h : Own D W0 L w) (a : Nat) {i : It} (hi : L[a]? = some i) {x : Nat} (hx : x ∈ i.fp) : x < w.heap.size := It.lt (h.get a hi) x hx
theorem Own.ne (h : Own D W0 L w) (a b : Nat) {i j : It} (hi : L[a]? = some i) (hj : L[b]? = some j) (hab : a ≠ b) {x y : Nat} (hx : x ∈ i.fp) (hy : y ∈ j.fp) : x ≠ y := fun e => h.dis a b i j hi hj hab x hx (e ▸ hy)
theorem Own.start (w : World) : Own w.heap.size w [] w := ⟨Below.refl _ _, Nat.le_refl _, by simp, by simp⟩
theorem Own.updG (h : Own D W0 L w) (L' : List It) (c : Nat → Prop) {S : List Nat} (hk : Keep S w w') (hS : ∀ x ∈ S, (∃ a i, c a ∧ L[a]? = some i ∧ x ∈ i.fp) ∨ w.heap.size ≤ x)
    (hun : ∀ a j, L'[a]? = some j → c a ∨ L[a]? = some j) (hch : ∀ a j, L'[a]? = some j → c a → j.holds D w' ∧ ∀ x ∈ j.fp, (∃ i, L[a]? = some i ∧ x ∈ i.fp) ∨ w.heap.size ≤ x)
    (hfd : ∀ a b i j, L'[a]? = some i → L'[b]? = some j → a ≠ b → c a → c b → ∀ x ∈ i.fp, x ∈ j.fp → w.heap.size ≤ x → False) : Own D W0 L' w' := by
  have hSD : ∀ x ∈ S, D ≤ x := fun x hx => by
    rcases hS x hx with ⟨a, i, _, h2, h3⟩ | h1
    · exact h.ge a h2 h3
    · have := h.lo; omega
  have key : ∀ a j, L'[a]? = some j → ∀ x ∈ j.fp, (∃ i, L[a]? = some i ∧ x ∈ i.fp) ∨ (c a ∧ w.heap.size ≤ x) := fun a j hj x hx => by
    rcases hun a j hj with h1 | h1
    · rcases (hch a j hj h1).2 x hx with e | e
      · exact .inl e
      · exact .inr ⟨h1, e⟩
    · exact .inl ⟨j, h1, hx⟩
  refine ⟨h.bel.trans (hk.below h.lo hSD), Nat.le_trans h.lo hk.size, fun a j hj => ⟨?_, fun x hx => ?_⟩, fun a b i j hi hj hab x hx hy => ?_⟩
  · by_cases hc : c a
    · exact (hch a j hj hc).1
    · have h1 : L[a]? = some j := (hun a j hj).resolve_left hc;refine It.keep (h.get a h1) hk (fun x hx hm => ?_) hSD;rcases hS x hm with ⟨b, i, h2, h3, h4⟩ | h2
      · exact h.dis a b j i h1 h3 (fun e => hc (e ▸ h2)) x hx h4
      · have := h.lt a h1 hx; omega
  · rcases key a j hj x hx with ⟨i, h1, h2⟩ | ⟨_, h2⟩
    · exact h.ge a h1 h2
    · have := h.lo; omega
  · rcases key a i hi x hx with ⟨i', h1, h2⟩ | ⟨h1, h2⟩
    · rcases key b j hj x hy with ⟨j', h3, h4⟩ | ⟨h3, h4⟩
      · exact h.dis a b i' j' h1 h3 hab x h2 h4
      · have := h.lt a h1 h2; omega
    · rcases key b j hj x hy with ⟨j', h3, h4⟩ | ⟨h3, h4⟩
      · have := h.lt b h3 h4; omega
      · exact hfd a b i j hi hj hab h1 h3 x hx hy h2
theorem Own.updF (h : Own D W0 L w) (L' : List It) (c : Nat → Prop) (f : Nat) {S : List Nat} (hk : Keep S w w') (hS : ∀ x ∈ S, (∃ a i, c a ∧ L[a]? = some i ∧ x ∈ i.fp) ∨ w.heap.size ≤ x)
    (hun : ∀ a j, L'[a]? = some j → c a ∨ L[a]? = some j) (hch : ∀ a j, L'[a]? = some j → c a → j.holds D w' ∧ ∀ x ∈ j.fp, (∃ i, L[a]? = some i ∧ x ∈ i.fp) ∨ (a = f ∧ w.heap.size ≤ x)) : Own D W0 L' w' := by
  refine h.updG L' c hk hS hun (fun a j hj hc => ⟨(hch a j hj hc).1, fun x hx => ?_⟩) (fun a b i j hi hj hab ha hb x hx hy hz => ?_)
  · rcases (hch a j hj hc).2 x hx with e | e
    · exact .inl e
    · exact .inr e.2
  · have h1 : a = f := by
      rcases (hch a i hi ha).2 x hx with ⟨i', e1, e2⟩ | e
      · have := h.lt a e1 e2; omega
      · exact e.1
    have h2 : b = f := by
      rcases (hch b j hj hb).2 x hy with ⟨i', e1, e2⟩ | e
      · have := h.lt b e1 e2; omega
      · exact e.1
    omega
theorem Own.below (h : Own D W0 L w) (hb : Below w.heap.size w w') : Own D W0 L w' :=
  h.updF L (fun _ => False) 0 (S := []) (Keep.of_below hb) (by simp) (fun a j hj => .inr hj) (fun _ _ _ h => h.elim)
theorem Own.fresh (h : Own D W0 L w) {S : List Nat} (hk : Keep S w w') (hS : ∀ x ∈ S, w.heap.size ≤ x) : Own D W0 L w' :=
  h.updF L (fun _ => False) 0 hk (fun x hx => .inr (hS x hx)) (fun a j hj => .inr hj) (fun _ _ _ h => h.elim)
theorem Own.upd (h : Own D W0 L w) (k : Nat) {i i' : It} (hi : L[k]? = some i) (hk : Keep i.fp w w') (hh : i'.holds D w') (hf : ∀ x ∈ i'.fp, x ∈ i.fp ∨ w.heap.size ≤ x) : Own D W0 (L.set k i') w' := by
  refine h.updF _ (fun a => a = k) k hk (fun x hx => .inl ⟨k, i, rfl, hi, hx⟩) (fun a j hj => ?_) (fun a j hj hc => ?_)
  · rw [List.getElem?_set] at hj;by_cases e : k = a
    · exact .inl e.symm
    · rw [if_neg e] at hj; exact .inr hj
  · subst hc;have hlt : a < L.length := (List.getElem?_eq_some_iff.1 hi).1;rw [List.getElem?_set, if_pos rfl, if_pos hlt] at hj;injection hj with hj
    subst hj;exact ⟨hh, fun x hx => by rcases hf x hx with e | e; exact .inl ⟨i, hi, e⟩; exact .inr ⟨rfl, e⟩⟩
theorem Own.upd' (h : Own D W0 L w) (k : Nat) {i i' : It} (hi : L[k]? = some i) {S : List Nat} (hk : Keep S w w') (hS : ∀ x ∈ S, x ∈ i.fp ∨ w.heap.size ≤ x) (hh : i'.holds D w') (hf : ∀ x ∈ i'.fp, x ∈ i.fp ∨ w.heap.size ≤ x) : Own D W0 (L.set k i') w' := by
  refine h.upd k hi (hk.mono fun x hx => ?_) hh hf;rcases hS x hx with e | e
  · exact .inl e
  · exact .inr e
theorem Own.set (h : Own D W0 L w) (k : Nat) {b : Nat} {o o' : Obj} (hi : L[k]? = some (.blk b o)) (hk : Keep [b] w w') (hh : w'.heap[b]? = some o') : Own D W0 (L.set k (.blk b o')) w' :=
  h.upd k hi hk hh (fun x hx => .inl hx)
theorem Own.new (h : Own D W0 L w) {i : It} (hb : Below w.heap.size w w') (hh : i.holds D w') (hf : ∀ x ∈ i.fp, w.heap.size ≤ x) : Own D W0 (L ++ [i]) w' := by
  have h' := h.below hb;have hget : ∀ {a : Nat} {j : It}, (L ++ [i])[a]? = some j → L[a]? = some j ∨ (a = L.length ∧ j = i) := fun {a j} hj => by
    rw [List.getElem?_append] at hj;split at hj
    · exact .inl hj
    · rename_i hl
      have : a - L.length = 0 := by
        rcases Nat.lt_or_ge 0 (a - L.length) with e | e
        · rw [List.getElem?_eq_none (by simp; omega)] at hj; cases hj
        · omega
      rw [this] at hj;injection hj with hj
      exact .inr ⟨by omega, hj.symm⟩
  refine ⟨h'.bel, h'.lo, fun a j hj => ?_, fun a b x y hx hy hab z hz hz' => ?_⟩
  · rcases hget hj with e | ⟨_, rfl⟩
    · exact h'.at_ a j e
    · exact ⟨hh, fun x hx => by have := hf x hx; have := h.lo; omega⟩
  · rcases hget hx with e1 | ⟨e1, rfl⟩
    · rcases hget hy with e2 | ⟨e2, rfl⟩
      · exact h.dis a b x y e1 e2 hab z hz hz'
      · have := h.lt a e1 hz; have := hf z hz'; omega
    · rcases hget hy with e2 | ⟨e2, rfl⟩
      · have := h.lt b e2 hz'; have := hf z hz; omega
      · omega
theorem Own.add (h : Own D W0 L w) {i : It} (hh : i.holds D w) (hD : ∀ x ∈ i.fp, D ≤ x) (hd : ∀ j ∈ L, ∀ x ∈ i.fp, x ∉ j.fp) : Own D W0 (L ++ [i]) w := by
  have hget : ∀ {a : Nat} {j : It}, (L ++ [i])[a]? = some j → L[a]? = some j ∨ (a = L.length ∧ j = i) := fun {a j} hj => by
    rw [List.getElem?_append] at hj;split at hj
    · exact .inl hj
    · rename_i hl
      have h2 := (List.getElem?_eq_some_iff.1 hj).1;simp at h2;have : a - L.length = 0 := by omega
      rw [this] at hj;injection hj with hj
      exact .inr ⟨by omega, hj.symm⟩
  refine ⟨h.bel, h.lo, fun a j hj => ?_, fun a b x y hx hy hab z hz hz' => ?_⟩
  · rcases hget hj with e | ⟨_, rfl⟩
    · exact h.at_ a j e
    · exact ⟨hh, hD⟩
  · rcases hget hx with e1 | ⟨e1, rfl⟩
    · rcases hget hy with e2 | ⟨e2, rfl⟩
      · exact h.dis a b x y e1 e2 hab z hz hz'
      · exact hd x (List.mem_of_getElem? e1) z hz' hz
    · rcases hget hy with e2 | ⟨e2, rfl⟩
      · exact hd y (List.mem_of_getElem? e2) z hz hz'
      · omega
theorem Own.alloc (h : Own D W0 L w) (o : Obj) : Own D W0 (L ++ [.blk w.heap.size o]) (w.alloc o) :=
  h.new ((Below.refl _ _).alloc (Nat.le_refl _) _) (heap_alloc_new w o) (by simp [It.fp])
theorem Own.drew (h : Own D W0 L w) : Own D W0 L w.drew := h.updF L (fun _ => False) 0 (S := []) ((Keep.refl _ _).drew) (by simp) (fun a j hj => .inr hj) (fun _ _ _ h => h.elim)
end
end Go.Proofs.YtalcinepeofmcaaGreat
namespace Go.Proofs.YtalcinepeofmcaaGreat
open Go Go.RowKit Sp Pt
structure PathN (S : List Nat) (w : World) (A : Option Addr) (c : Nat) (l : List Int) : Prop where
  rd : Rd w 1 A l.length (ints l)
  off : 0 < l.length → ∀ b o, A = some ⟨b, o, none⟩ → b ∉ S
  ge : l.length ≤ c
  cap : c ≤ 9223372036854775807
  nil : A = none → c = 0
section
variable {S S' : List Nat} {w w' : World} {A : Option Addr} {c : Nat} {l : List Int}
theorem PathN.of_pathB {D : Nat} (h : PathB D w A c l) (hD : D ≤ w.heap.size) (hS : ∀ x ∈ S, D ≤ x) : PathN S w A c l :=
  ⟨h.1.rd hD, fun h0 b o e hm => by
    obtain ⟨b', o', e', hb, _⟩ := h.1.2 h0;rw [e] at e';injection e' with e'
    injection e' with e1
    have := hS b hm;omega, h.2.1, h.2.2.1, h.2.2.2⟩
theorem PathN.pathB (h : PathN S w A c l) : PathB w.heap.size w A c l := ⟨RdB.of h.rd (Nat.le_refl _), h.ge, h.cap, h.nil⟩
theorem PathN.of_ownA {e : TypeId} {q : List Nat} (h : OwnA w e A l.length c (ints l) q) (hS : ∀ g ∈ q, g ∉ S) : PathN S w A c l := by
  refine ⟨h.rd, fun h0 b o he hm => hS b (h.mem_ h0 he) hm, h.ge, ?_, fun hA => ?_⟩
  · rcases h.2 with ⟨_, _, rfl, _⟩ | ⟨g, off, cur, _, _, _, _, h, _⟩
    · omega
    · exact h
  · rcases h.2 with ⟨_, _, h2, _⟩ | ⟨g, off, cur, h1, _⟩
    · exact h2
    · rw [hA] at h1; cases h1
theorem PathN.keep (h : PathN S w A c l) {T : List Nat} (hk : Keep T w w') (hT : ∀ x ∈ T, x ∈ S ∨ w.heap.size ≤ x) (hS : ∀ x ∈ S', x ∈ S ∨ w.heap.size ≤ x) : PathN S' w' A c l := by
  have hlt : ∀ b o, 0 < l.length → A = some ⟨b, o, none⟩ → b < w.heap.size := fun b o h0 e => by
    obtain ⟨b', o', e', hb, _⟩ := h.rd.2 h0;rw [e] at e';injection e' with e'
    injection e' with e1
    omega
  by_cases h0 : 0 < l.length
  · refine ⟨hk.rd h.rd fun b o e hm => ?_, fun _ b o e hm => ?_, h.ge, h.cap, h.nil⟩
    · have := hlt b o h0 e;rcases hT b hm with h1 | h1
      · exact h.off h0 b o e h1
      · omega
    · have := hlt b o h0 e;rcases hS b hm with h1 | h1
      · exact h.off h0 b o e h1
      · omega
  · exact ⟨⟨h.rd.1, fun h1 => absurd h1 h0⟩, fun h1 => absurd h1 h0, h.ge, h.cap, h.nil⟩
theorem PathN.below (h : PathN S w A c l) (hb : Below w.heap.size w w') : PathN S w' A c l := h.keep (T := []) (Keep.of_below hb) (by simp) (fun x hx => .inl hx)
end
def PathsN (S : List Nat) (w : World) (L : List BrR) : Prop := ∀ y ∈ L, PathN S w y.A y.c y.b.path
section
variable {S S' : List Nat} {w w' : World} {L : List BrR}
theorem PathsN.keep (h : PathsN S w L) {T : List Nat} (hk : Keep T w w') (hT : ∀ x ∈ T, x ∈ S ∨ w.heap.size ≤ x) (hS : ∀ x ∈ S', x ∈ S ∨ w.heap.size ≤ x) : PathsN S' w' L := fun y hy => (h y hy).keep hk hT hS
theorem PathsN.below (h : PathsN S w L) (hb : Below w.heap.size w w') : PathsN S w' L := fun y hy => (h y hy).below hb
theorem PathsN.set (h : PathsN S w L) {k : Nat} {y : BrR} (hy : PathN S w y.A y.c y.b.path) : PathsN S w (L.set k y) := fun z hz => by
  rcases List.mem_or_eq_of_mem_set hz with h1 | rfl
  · exact h z h1
  · exact hy
theorem PathsN.snoc (h : PathsN S w L) {y : BrR} (hy : PathN S w y.A y.c y.b.path) : PathsN S w (L ++ [y]) := fun z hz => by
  rcases List.mem_append.1 hz with h1 | h1
  · exact h z h1
  · rw [List.mem_singleton.1 h1]; exact hy
end
theorem brcs_set {L : List BrR} {k : Nat} (hk : k < L.length) (A : Option Addr) (c : Nat) : brcs (L.set k ⟨L[k].b, A, c⟩) = (brcs L).set (k * 2 + 1) (.slice A L[k].b.path.length c) := by
  induction L generalizing k with
  | nil => simp at hk
  | cons x L ih =>
    cases k with
    | zero => simp [brcs, brc]
    | succ k =>
      have := ih (k := k) (by simpa using hk);simp only [List.set_cons_succ, brcs, List.flatMap_cons, List.getElem_cons_succ] at this ⊢;rw [this];simp [brc, show (k + 1) * 2 + 1 = k * 2 + 1 + 1 + 1 from by omega]
theorem map_set_b {L : List BrR} {k : Nat} (hk : k < L.length) (A : Option Addr) (c : Nat) : (L.set k ⟨L[k].b, A, c⟩).map (·.b) = L.map (·.b) := by
  rw [List.map_set];have : (L.map (·.b))[k]'(by simpa using hk) = L[k].b := by simp
  rw [← this, List.set_getElem_self]
theorem OwnS.nilS {w : World} {e : TypeId} {sz : Nat} {A : Option Addr} {n c : Nat} {xs : List Value} {q : List Nat} (h : OwnS w e sz A n c xs q) (hA : A = none) : c = 0 := by
  rcases h.2 with ⟨_, _, h2, _⟩ | ⟨g, cur, h1, _⟩
  · exact h2
  · rw [hA] at h1; cases h1
theorem PrtB.of_own {w : World} {e1 e2 : TypeId} {Ac Ab : Option Addr} {cc cb : Nat} {q1 q2 S : List Nat} {p : Prt} {L : List BrR} (h1 : OwnS w e1 3 Ac p.chs.length cc (chcs p.chs) q1) (h2 : OwnS w e2 2 Ab p.bts.length cb (brcs L) q2) (hL : L.map (·.b) = p.bts) (hp : PathsN S w L) : PrtB w.heap.size w Ac cc Ab cb p :=
  ⟨RdB.of h1.rd (Nat.le_refl _), BtsB.of_rows hL (RdB.of h2.rd (Nat.le_refl _)) (fun y hy => (hp y hy).pathB), ⟨h1.ge, h1.cap, h1.nilS⟩, ⟨h2.ge, h2.cap, h2.nilS⟩⟩
end Go.Proofs.YtalcinepeofmcaaGreat
namespace Go.Proofs.YtalcinepeofmcaaGreat
open Go Go.RowKit Sp Pt
def newQ (w w' : World) : List Nat := (List.range w'.heap.size).filter (fun x => decide (w.heap.size ≤ x))
theorem mem_newQ {w w' : World} {x : Nat} : x ∈ newQ w w' ↔ w.heap.size ≤ x ∧ x < w'.heap.size := by simp [newQ, and_comm]
def noIt : It := .gen [] (fun _ => True)
section
variable {D : Nat} {W0 w w' : World} {L : List It}
theorem Own.blank (h : Own D W0 L w) : Own D W0 (L ++ [noIt]) w := h.add (i := noIt) ⟨by simp, fun _ _ _ _ => trivial⟩ (by simp [noIt, It.fp]) (by simp [noIt, It.fp])
theorem Own.newG (h : Own D W0 L w) (k : Nat) (hi : L[k]? = some noIt) {q : List Nat} {P : World → Prop} (hb : Below w.heap.size w w') (hh : (It.gen q P).holds D w') (hf : ∀ x ∈ q, w.heap.size ≤ x) : Own D W0 (L.set k (.gen q P)) w' :=
  h.upd k hi (Keep.of_below hb) hh (fun x hx => .inr (hf x hx))
theorem Own.newB (h : Own D W0 L w) (k : Nat) (hi : L[k]? = some noIt) (o : Obj) : Own D W0 (L.set k (.blk w.heap.size o)) (w.alloc o) :=
  h.upd k hi ((Keep.refl _ _).alloc _) (heap_alloc_new w o) (fun x hx => .inr (by rw [List.mem_singleton.1 hx]; exact Nat.le_refl _))
theorem Own.thing (h : Own D W0 L w) (k : Nat) {q : List Nat} {P : World → Prop} (hi : L[k]? = some (.gen q P)) : P w := (h.get k hi).2 [] w (Keep.refl _ _) (by simp)
end
def PrtH (Ac : Option Addr) (cc : Nat) (Ab : Option Addr) (cb : Nat) (p : Prt) : World → Prop := fun w => PrtB w.heap.size w Ac cc Ab cb p
def NewPrt (w : World) (p : Prt) (e : Ending) (w' : World) : Prop := ∃ Ac1 cc1 Ab1 cb1 q, e = .returned (.agg (prtV Ac1 cc1 Ab1 cb1 p)) ∧ (∀ D, (It.gen q (PrtH Ac1 cc1 Ab1 cb1 p)).holds D w') ∧ (∀ x ∈ q, w.heap.size ≤ x) ∧ Below w.heap.size w w'
theorem NewPrt.use {w w' : World} {p : Prt} {e : Ending} (h : NewPrt w p e w') : ∃ Ac1 cc1 Ab1 cb1, e = .returned (.agg (prtV Ac1 cc1 Ab1 cb1 p)) ∧ PrtB w'.heap.size w' Ac1 cc1 Ab1 cb1 p ∧ Below w.heap.size w w' := by
  obtain ⟨A, c, B, d, q, h1, h2, h3, h4⟩ := h;exact ⟨A, c, B, d, h1, (h2 0).2 [] w' (Keep.refl _ _) (by simp), h4⟩
theorem prtH_new {w w' : World} {e1 e2 : TypeId} {Ac Ab : Option Addr} {cc cb : Nat} {q1 q2 : List Nat} {p : Prt} {L : List BrR} (h1 : OwnS w' e1 3 Ac p.chs.length cc (chcs p.chs) q1) (h2 : OwnS w' e2 2 Ab p.bts.length cb (brcs L) q2) (hL : L.map (·.b) = p.bts) (hp : PathsN (List.range w.heap.size) w' L)
    (hq1 : ∀ x ∈ q1, w.heap.size ≤ x) (hq2 : ∀ x ∈ q2, w.heap.size ≤ x) (D : Nat) : (It.gen (newQ w w') (PrtH Ac cc Ab cb p)).holds D w' := by
  refine ⟨fun x hx => (mem_newQ.1 hx).2, fun S wx hk hS => ?_⟩;refine PrtB.of_own (S := []) (h1.keepS hk (fun g hg hm => hS g hm (mem_newQ.2 ⟨hq1 g hg, h1.lt g hg⟩))) (h2.keepS hk (fun g hg hm => hS g hm (mem_newQ.2 ⟨hq2 g hg, h2.lt g hg⟩))) hL (fun y hy => ?_);have hy' := hp y hy;by_cases h0 : 0 < y.b.path.length
  · refine ⟨hk.rd hy'.rd fun b o e hm => ?_, fun _ _ _ _ => by simp, hy'.ge, hy'.cap, hy'.nil⟩;obtain ⟨b', o', e', hb, _⟩ := hy'.rd.2 h0;rw [e] at e';injection e' with e'
    injection e' with e1 _ _
    have := hy'.off h0 b o e;simp only [List.mem_range, Nat.not_lt] at this;exact hS b hm (mem_newQ.2 ⟨this, by omega⟩)
  · exact ⟨⟨hy'.rd.1, fun h1 => absurd h1 h0⟩, fun h1 => absurd h1 h0, hy'.ge, hy'.cap, hy'.nil⟩
end Go.Proofs.YtalcinepeofmcaaGreat
namespace Go.Proofs.YtalcinepeofmcaaGreat
open Go
def regionOkG (ops : List Oper) (n : Nat) : Bool :=
  (ops.filterMap (·.dst)).Nodup && (ops.filterMap (·.dst)).all (· < n) && ops.zipIdx.all (fun p => p.1.after.toList.all fun e => !Region.binds .any e || decide (e.on < p.2))
def GStep {σ : Type} (P : Program) (ops : List Oper) (Q : Exit → Act → World → Prop) (φ : σ → Nat → Value → World → Prop) (W : σ → (Nat → Bool) → World → Prop) (i : Nat) (o : Oper) (s : σ) (l : Nat → Bool) (a : Act) (w : World) : Prop :=
  if Region.wanted o (yielded ops.toArray a.tmps) = true then o.wp P a w (fun a' w' => ∃ s' v, a' = a.put o.dst v ∧ W s' (upd l i) w' ∧ (o.dst.isSome = true → φ s' i v w') ∧ (∀ j u, l j = true → φ s j u w → φ s' j u w')) Q
  else ∃ s' v, a.put o.dst undef = a.put o.dst v ∧ W s' (upd l i) w ∧ (o.dst.isSome = true → φ s' i v w) ∧ (∀ j u, l j = true → φ s j u w → φ s' j u w)
theorem wp_region_invG {σ : Type} {P : Program} {ops : List Oper} {Q : Exit → Act → World → Prop} {id : Nat} {a0 : Act} {w0 : World} (hm : P.follows .mixedOrders = true)
    (hok : regionOkG ops a0.tmps.size = true)
    (φ : σ → Nat → Value → World → Prop) (W : σ → (Nat → Bool) → World → Prop) (s0 : σ) (h0 : W s0 (fun _ => false) w0.drew)
    (hstep : ∀ i o, ops[i]? = some o → ∀ s l a w, l i = false → (∀ e ∈ o.after.toList, Region.binds .any e = true → l e.on = true) → W s l w → FrOk ops a0 (φ s) l a w →
      GStep P ops Q φ W i o s l a w)
    (hfin : ∀ s a w, W s (fun j => decide (j < ops.length)) w → FrOk ops a0 (φ s) (fun j => decide (j < ops.length)) a w → Q .normal a w) :
    (Code.region id ops.toArray true).wp P Q a0 w0 := by
  simp only [regionOkG, Bool.and_eq_true, decide_eq_true_eq] at hok;obtain ⟨⟨hnd, hltB⟩, hgB⟩ := hok;have hlt : ∀ (o : Oper) (d : Nat), o ∈ ops → o.dst = some d → d < a0.tmps.size := fun o d ho hd => by
    have := List.all_eq_true.1 hltB d (List.mem_filterMap.2 ⟨o, ho, hd⟩);simpa using this
  have hg : ∀ i o, ops[i]? = some o → True ∧ ∀ e ∈ o.after.toList, Region.binds .any e = true → e.on < i := fun i o ho => by
    have := List.all_eq_true.1 hgB (o, i) (List.mem_zipIdx_iff_getElem?.2 ho);simp only at this;refine ⟨trivial, fun e he hb => ?_⟩;have h2 := List.all_eq_true.1 this e he;simpa [hb] using h2
  have hsz : ops.toArray.size = ops.length := by simp
  have hall : ∀ listed : Array Bool, listed.size = ops.length → Region.ready .any ops.toArray listed = [] → ∀ n, ∀ j, j < n → j < ops.length → listed.getD j false = true := by
    intro listed hls hr n;induction n with
    | zero => intro j hj; omega
    | succ n ih =>
      intro j hj hjl;by_cases hjn : j < n
      · exact ih j hjn hjl
      · obtain rfl : j = n := by omega
        cases hl : listed.getD j false with
        | true => rfl
        | false =>
          exfalso;have hl' : listed.getD j true = false ∨ listed.size ≤ j := by
            rcases Nat.lt_or_ge j listed.size with h | h
            · left; simp [h] at hl ⊢; exact hl
            · exact .inr h
          have ho : ops[j]? = some ops[j] := List.getElem?_eq_getElem hjl;rcases hl' with hl' | hl'
          · have : j ∈ Region.ready .any ops.toArray listed := mem_ready.2 ⟨hl', ops[j], by simp [hjl], fun e he hb => ih e.on ((hg j _ ho).2 e (by simpa using he) hb) (by have := (hg j _ ho).2 e (by simpa using he) hb; omega)⟩;rw [hr] at this;cases this
          · omega
  have main : ∀ fuel (listed : Array Bool) (a : Act) (w : World) (s : σ), listed.size = ops.length → cntFalse (fun j => listed.getD j false) ops.length ≤ fuel → W s (fun j => listed.getD j false) w → FrOk ops a0 (φ s) (fun j => listed.getD j false) a w →
      wpAny P .any ops.toArray Q fuel listed a w := by
    intro fuel;have hend : ∀ (listed : Array Bool) (a : Act) (w : World) (s : σ), listed.size = ops.length → (∀ j, j < ops.length → listed.getD j false = true) → W s (fun j => listed.getD j false) w → FrOk ops a0 (φ s) (fun j => listed.getD j false) a w → Q .normal a w := by
      intro listed a w s hs hl hW hF;have he : (fun j => listed.getD j false) = fun j => decide (j < ops.length) := by
        funext j
        by_cases hj : j < ops.length
        · rw [hl j hj]; simp [hj]
        · simp [hj, hs]
      rw [he] at hW hF;exact hfin s a w hW hF
    induction fuel with
    | zero =>
      intro listed a w s hs hc hW hF;have hl := cntFalse_zero ops.length (Nat.le_zero.1 hc);refine ⟨?_, hend listed a w s hs hl hW hF⟩;apply List.eq_nil_iff_forall_not_mem.2;intro i hi;obtain ⟨h1, o, ho, _⟩ := mem_ready.1 hi;have hil : i < ops.length := by simpa using (Array.getElem?_eq_some_iff.1 ho).1
      have h2 := hl i hil;have : i < listed.size := by omega
      simp [this] at h1 h2;rw [h2] at h1;cases h1
    | succ fuel ih =>
      intro listed a w s hs hc hW hF;refine ⟨fun hr => hend listed a w s hs (fun j hj => hall listed hs hr (j + 1) j (by omega) hj) hW hF, fun i hi => ?_⟩;obtain ⟨h1, o, ho, hdep⟩ := mem_ready.1 hi;have hil : i < ops.length := by simpa using (Array.getElem?_eq_some_iff.1 ho).1
      have ho' : ops[i]? = some o := by rw [← ho]; simp
      have hli : i < listed.size := by omega
      have hl0 : listed.getD i false = false := by simp [hli] at h1 ⊢; exact h1
      have hst := hstep i o ho' s (fun j => listed.getD j false) a w hl0 (fun e he hb => hdep e (by simpa using he) hb) hW hF;unfold wpOp;rw [ho];have key : ∀ a' w', (∃ s' v, a' = a.put o.dst v ∧ W s' (upd (fun j => listed.getD j false) i) w' ∧ (o.dst.isSome = true → φ s' i v w') ∧ (∀ j u, (fun j => listed.getD j false) j = true → φ s j u w → φ s' j u w')) → wpAny P .any ops.toArray Q fuel (listed.setIfInBounds i true) a' w' := ?_
      · unfold GStep at hst;simp only;by_cases hw : Region.wanted o (yielded ops.toArray a.tmps) = true
        · rw [if_pos hw] at hst ⊢;exact .inl (Oper.wp_mono key hst)
        · rw [if_neg hw] at hst ⊢;exact key _ _ hst
      rintro a' w' ⟨s', v, rfl, hW', hφ, hstab⟩;have hupd : (fun j => (listed.setIfInBounds i true).getD j false) = upd (fun j => listed.getD j false) i := by
        funext j
        simp only [upd];split
        · rename_i hj; subst hj; simp [hli]
        · rename_i hj; rw [getD_set_ne false (Ne.symm hj)]
      have hcl : ∀ j o', upd (fun j => listed.getD j false) i j = true → ops[j]? = some o' → ∀ e ∈ o'.after.toList, Region.binds .any e = true → upd (fun j => listed.getD j false) i e.on = true := by
        intro j o' hj ho'' e he hb;have hold : (listed.getD e.on false) = true → upd (fun j => listed.getD j false) i e.on = true := fun h => by simp only [upd]; split <;> first | rfl | exact h
        by_cases hji : j = i
        · subst hji;rw [ho'] at ho'';injection ho'' with e1
          subst e1;exact hold (hdep e (by simpa using he) hb)
        · have hj' : listed.getD j false = true := by simpa [upd, hji] using hj
          exact hold (hF.closed j o' hj' ho'' e he hb)
      have hF' : FrOk ops a0 (φ s') (upd (fun j => listed.getD j false) i) (a.put o.dst v) w' := by
        cases hd : o.dst with
        | none =>
          refine ⟨hF.defers, hF.size, fun t ht => hF.other t (fun j o' hj hd' => by have := ht j o' hj hd'; simp only [upd] at this; split at this <;> first | exact this | cases this), fun j o' d hj ho'' hd' => ?_, hcl⟩;have hji : j ≠ i := by
            rintro rfl;rw [ho'] at ho'';injection ho'' with e
            rw [← e, hd] at hd';cases hd'
          have hj' : listed.getD j false = true := by simpa [upd, hji] using hj
          obtain ⟨u, hu, hp⟩ := hF.vals j o' d hj' ho'' hd';exact ⟨u, hu, hstab j u hj' hp⟩
        | some d0 =>
          refine ⟨hF.defers, by simp [Act.put, hF.size], fun t ht => ?_, fun j o' d hj ho'' hd' => ?_, hcl⟩
          · have : d0 ≠ t := fun e => by
              have := ht i o ho' (by rw [hd, e]);simp [upd] at this
            simp only [Act.put];rw [Array.getElem?_setIfInBounds_ne this];exact hF.other t (fun j o' hj hd' => by have := ht j o' hj hd'; simp only [upd] at this; split at this <;> first | exact this | cases this)
          · by_cases hji : j = i
            · subst hji;rw [ho'] at ho'';injection ho'' with e
              subst e;rw [hd] at hd';injection hd' with e
              subst e;have hlt' : d0 < a.tmps.size := by rw [hF.size]; exact hlt o d0 (List.mem_of_getElem? ho') hd
              exact ⟨v, by simp [Act.put, hlt'], hφ (by rw [hd]; rfl)⟩
            · have hj' : listed.getD j false = true := by simpa [upd, hji] using hj
              obtain ⟨u, hu, hp⟩ := hF.vals j o' d hj' ho'' hd';have hne : d0 ≠ d := by
                rintro rfl;exact hji (nodup_dst hnd ho'' ho' hd' hd)
              refine ⟨u, ?_, hstab j u hj' hp⟩;simp only [Act.put];rw [Array.getElem?_setIfInBounds_ne hne];exact hu
      refine ih _ _ _ s' (by simp [hs]) ?_ (by rw [hupd]; exact hW') (by rw [hupd]; exact hF');rw [hupd];have := cntFalse_upd (f := fun j => listed.getD j false) hl0 ops.length hil;omega
  refine wp_region_any hm ?_;rw [hsz];have hf : (fun j => (Array.replicate ops.length false).getD j false) = fun _ => false := by
    funext j
    rcases Nat.lt_or_ge j ops.length with h | h <;> simp [h]
  refine main ops.length _ a0 w0.drew s0 (by simp) (cntFalse_le _ _) (by rw [hf]; exact h0) ?_;exact ⟨rfl, rfl, fun _ _ => rfl, fun j o d hj => (by rw [congrFun hf j] at hj; cases hj), fun j o hj => (by rw [congrFun hf j] at hj; cases hj)⟩
def StepOkG {σ : Type} (P : Program) (ops : List Oper) (Q : Exit → Act → World → Prop) (a0 : Act) (φ : σ → Nat → Value → World → Prop) (W : σ → (Nat → Bool) → World → Prop) (i : Nat) (o : Oper) : Prop :=
  ∀ s l a w, l i = false → (∀ e ∈ o.after.toList, Region.binds .any e = true → l e.on = true) → W s l w → FrOk ops a0 (φ s) l a w → GStep P ops Q φ W i o s l a w
theorem wp_region_stepsG {σ : Type} {P : Program} {ops : List Oper} {Q : Exit → Act → World → Prop} {id : Nat} {a0 : Act} {w0 : World} (hm : P.follows .mixedOrders = true)
    (hok : regionOkG ops a0.tmps.size = true)
    (φ : σ → Nat → Value → World → Prop) (W : σ → (Nat → Bool) → World → Prop) (s0 : σ) (h0 : W s0 (fun _ => false) w0.drew)
    (hstep : AllFrom (StepOkG P ops Q a0 φ W) 0 ops)
    (hfin : ∀ s a w, W s (fun j => decide (j < ops.length)) w → FrOk ops a0 (φ s) (fun j => decide (j < ops.length)) a w → Q .normal a w) :
    (Code.region id ops.toArray true).wp P Q a0 w0 :=
  wp_region_invG hm hok φ W s0 h0 (fun i o ho => by have := allFrom_get hstep i o ho; rwa [Nat.zero_add] at this) hfin
theorem gP_ {σ : Type} {P : Program} {ops : List Oper} {Q : Exit → Act → World → Prop} {a0 : Act} {φ : σ → Nat → Value → World → Prop} {W : σ → (Nat → Bool) → World → Prop} {i : Nat} {o : Oper} (hg : o.guard = none) (h : StepOk P ops Q a0 φ W i o) : StepOkG P ops Q a0 φ W i o := by
  intro s l a w hl hd hW hF;unfold GStep;rw [if_pos (by simp [Region.wanted, hg])];exact h s l a w hl hd hW hF
theorem stepG_guard {σ : Type} {P : Program} {ops : List Oper} {Q : Exit → Act → World → Prop} {a0 : Act} {φ : σ → Nat → Value → World → Prop} {W : σ → (Nat → Bool) → World → Prop} {i : Nat} {o : Oper}
    (hy : ∀ s l a w, l i = false → (∀ e ∈ o.after.toList, Region.binds .any e = true → l e.on = true) → W s l w → FrOk ops a0 (φ s) l a w → Region.wanted o (yielded ops.toArray a.tmps) = true →
      o.wp P a w (fun a' w' => ∃ s' v, a' = a.put o.dst v ∧ W s' (upd l i) w' ∧ (o.dst.isSome = true → φ s' i v w') ∧ (∀ j u, l j = true → φ s j u w → φ s' j u w')) Q)
    (hn : ∀ s l a w, l i = false → (∀ e ∈ o.after.toList, Region.binds .any e = true → l e.on = true) → W s l w → FrOk ops a0 (φ s) l a w → Region.wanted o (yielded ops.toArray a.tmps) = false → W s (upd l i) w ∧ φ s i undef w) : StepOkG P ops Q a0 φ W i o := by
  intro s l a w hl hd hW hF;unfold GStep;by_cases hw : Region.wanted o (yielded ops.toArray a.tmps) = true
  · rw [if_pos hw]; exact hy s l a w hl hd hW hF hw
  · rw [if_neg hw];obtain ⟨h1, h2⟩ := hn s l a w hl hd hW hF (by simpa using hw);exact ⟨s, undef, rfl, h1, fun _ => h2, fun _ _ _ h => h⟩
end Go.Proofs.YtalcinepeofmcaaGreat
namespace Go.Proofs.YtalcinepeofmcaaGreat
open Go Go.RowKit Sp Pt
theorem pWa (n lo hi : Int) (w : World) :
    Calls Tryz.prog 45 #[.int .i64 n, .int .i64 lo, .int .i64 hi] w fun e w' => e = .returned (.bool (within n lo hi)) ∧ w = w' := by
  go_enter Tryz.func45, Tryz.ntmps45
  go_wp2
  all_goals (go_ret; refine ⟨?_, rfl⟩; simp [within]; try omega)
abbrev mpV (m : Mp) : Value := .agg #[.int .i64 m.add, .int .i64 m.floor, .int .i64 m.most]
theorem nothing_any (v : Value) (w : World) : Calls Tryz.prog 55 #[v] w fun e w' => e = .returned (.tuple #[]) ∧ w = w' := by
  go_enter Tryz.func55, Tryz.ntmps55
  go_wp2
  go_end0
  exact ⟨rfl, rfl⟩
end Go.Proofs.YtalcinepeofmcaaGreat
