/- As XRegion, for regions with guarded operations: an operation whose guard says no only puts undef. -/
import Derived.Test.YtalcinepeofmcaaDoorRSp0
import Derived.Test.YtalcinepeofmcaaDoorProg
import Derived.Test.YtalcinepeofmcaaDoorRSp8
import Derived.Test.YtalcinepeofmcaaDoorRSp7
set_option linter.unusedVariables false
set_option linter.unusedSimpArgs false
namespace Go.Proofs.YtalcinepeofmcaaDoor
open Go
set_option linter.unusedVariables false

def regionOkG (ops : List Oper) (n : Nat) : Bool :=
  (ops.filterMap (·.dst)).Nodup && (ops.filterMap (·.dst)).all (· < n) && ops.zipIdx.all (fun p => p.1.after.toList.all fun e => !Region.binds .any e || decide (e.on < p.2))
/-- what one operation owes, wanted or not -/
def GStep {σ : Type} (P : Program) (ops : List Oper) (Q : Exit → Act → World → Prop) (φ : σ → Nat → Value → World → Prop) (W : σ → (Nat → Bool) → World → Prop) (i : Nat) (o : Oper) (s : σ) (l : Nat → Bool) (a : Act) (w : World) : Prop :=
  if Region.wanted o (yielded ops.toArray a.tmps) = true then o.wp P a w (fun a' w' => ∃ s' v, a' = a.put o.dst v ∧ W s' (upd l i) w' ∧ (o.dst.isSome = true → φ s' i v w') ∧ (∀ j u, l j = true → φ s j u w → φ s' j u w')) Q
  else ∃ s' v, a.put o.dst undef = a.put o.dst v ∧ W s' (upd l i) w ∧ (o.dst.isSome = true → φ s' i v w) ∧ (∀ j u, l j = true → φ s j u w → φ s' j u w)

theorem wp_region_invG {σ : Type} {P : Program} {ops : List Oper} {Q : Exit → Act → World → Prop} {id : Nat} {a0 : Act} {w0 : World} (hm : P.follows .mixedOrders = true)
    (hok : regionOkG ops a0.tmps.size = true)
    (φ : σ → Nat → Value → World → Prop) (W : σ → (Nat → Bool) → World → Prop) (s0 : σ) (h0 : W s0 (fun _ => false) w0.drew)
    (hstep : ∀ i o, ops[i]? = some o → ∀ s l a w, l i = false → (∀ e ∈ o.after.toList, Region.binds .any e = true → l e.on = true) → W s l w → FrOk ops a0 (φ s) l a w →
      GStep P ops Q φ W i o s l a w)
    (hfin : ∀ s a w, W s (fun j => decide (j < ops.length)) w → FrOk ops a0 (φ s) (fun j => decide (j < ops.length)) a w → Q .normal a w) :
    (Code.region id ops.toArray true).wp P Q a0 w0 := by
  simp only [regionOkG, Bool.and_eq_true, decide_eq_true_eq] at hok
  obtain ⟨⟨hnd, hltB⟩, hgB⟩ := hok
  have hlt : ∀ (o : Oper) (d : Nat), o ∈ ops → o.dst = some d → d < a0.tmps.size := fun o d ho hd => by
    have := List.all_eq_true.1 hltB d (List.mem_filterMap.2 ⟨o, ho, hd⟩)
    simpa using this
  have hg : ∀ i o, ops[i]? = some o → True ∧ ∀ e ∈ o.after.toList, Region.binds .any e = true → e.on < i := fun i o ho => by
    have := List.all_eq_true.1 hgB (o, i) (List.mem_zipIdx_iff_getElem?.2 ho)
    simp only at this
    refine ⟨trivial, fun e he hb => ?_⟩
    have h2 := List.all_eq_true.1 this e he
    simpa [hb] using h2
  have hsz : ops.toArray.size = ops.length := by simp
  -- all have been carried out where none may come up
  have hall : ∀ listed : Array Bool, listed.size = ops.length → Region.ready .any ops.toArray listed = [] → ∀ n, ∀ j, j < n → j < ops.length → listed.getD j false = true := by
    intro listed hls hr n
    induction n with
    | zero => intro j hj; omega
    | succ n ih =>
      intro j hj hjl
      by_cases hjn : j < n
      · exact ih j hjn hjl
      · obtain rfl : j = n := by omega
        cases hl : listed.getD j false with
        | true => rfl
        | false =>
          exfalso
          have hl' : listed.getD j true = false ∨ listed.size ≤ j := by
            rcases Nat.lt_or_ge j listed.size with h | h
            · left; simp [h] at hl ⊢; exact hl
            · exact .inr h
          have ho : ops[j]? = some ops[j] := List.getElem?_eq_getElem hjl
          rcases hl' with hl' | hl'
          · have : j ∈ Region.ready .any ops.toArray listed := mem_ready.2 ⟨hl', ops[j], by simp [hjl], fun e he hb => ih e.on ((hg j _ ho).2 e (by simpa using he) hb) (by have := (hg j _ ho).2 e (by simpa using he) hb; omega)⟩
            rw [hr] at this
            cases this
          · omega
  have main : ∀ fuel (listed : Array Bool) (a : Act) (w : World) (s : σ), listed.size = ops.length → cntFalse (fun j => listed.getD j false) ops.length ≤ fuel → W s (fun j => listed.getD j false) w → FrOk ops a0 (φ s) (fun j => listed.getD j false) a w →
      wpAny P .any ops.toArray Q fuel listed a w := by
    intro fuel
    have hend : ∀ (listed : Array Bool) (a : Act) (w : World) (s : σ), listed.size = ops.length → (∀ j, j < ops.length → listed.getD j false = true) → W s (fun j => listed.getD j false) w → FrOk ops a0 (φ s) (fun j => listed.getD j false) a w → Q .normal a w := by
      intro listed a w s hs hl hW hF
      have he : (fun j => listed.getD j false) = fun j => decide (j < ops.length) := by
        funext j
        by_cases hj : j < ops.length
        · rw [hl j hj]; simp [hj]
        · simp [hj, hs]
      rw [he] at hW hF
      exact hfin s a w hW hF
    induction fuel with
    | zero =>
      intro listed a w s hs hc hW hF
      have hl := cntFalse_zero ops.length (Nat.le_zero.1 hc)
      refine ⟨?_, hend listed a w s hs hl hW hF⟩
      apply List.eq_nil_iff_forall_not_mem.2
      intro i hi
      obtain ⟨h1, o, ho, _⟩ := mem_ready.1 hi
      have hil : i < ops.length := by simpa using (Array.getElem?_eq_some_iff.1 ho).1
      have h2 := hl i hil
      have : i < listed.size := by omega
      simp [this] at h1 h2
      rw [h2] at h1
      cases h1
    | succ fuel ih =>
      intro listed a w s hs hc hW hF
      refine ⟨fun hr => hend listed a w s hs (fun j hj => hall listed hs hr (j + 1) j (by omega) hj) hW hF, fun i hi => ?_⟩
      obtain ⟨h1, o, ho, hdep⟩ := mem_ready.1 hi
      have hil : i < ops.length := by simpa using (Array.getElem?_eq_some_iff.1 ho).1
      have ho' : ops[i]? = some o := by rw [← ho]; simp
      have hli : i < listed.size := by omega
      have hl0 : listed.getD i false = false := by simp [hli] at h1 ⊢; exact h1
      have hst := hstep i o ho' s (fun j => listed.getD j false) a w hl0 (fun e he hb => hdep e (by simpa using he) hb) hW hF
      unfold wpOp
      rw [ho]
      have key : ∀ a' w', (∃ s' v, a' = a.put o.dst v ∧ W s' (upd (fun j => listed.getD j false) i) w' ∧ (o.dst.isSome = true → φ s' i v w') ∧ (∀ j u, (fun j => listed.getD j false) j = true → φ s j u w → φ s' j u w')) → wpAny P .any ops.toArray Q fuel (listed.setIfInBounds i true) a' w' := ?_
      · unfold GStep at hst
        simp only
        by_cases hw : Region.wanted o (yielded ops.toArray a.tmps) = true
        · rw [if_pos hw] at hst ⊢
          exact .inl (Oper.wp_mono key hst)
        · rw [if_neg hw] at hst ⊢
          exact key _ _ hst
      rintro a' w' ⟨s', v, rfl, hW', hφ, hstab⟩
      have hupd : (fun j => (listed.setIfInBounds i true).getD j false) = upd (fun j => listed.getD j false) i := by
        funext j
        simp only [upd]
        split
        · rename_i hj; subst hj; simp [hli]
        · rename_i hj; rw [getD_set_ne false (Ne.symm hj)]
      have hcl : ∀ j o', upd (fun j => listed.getD j false) i j = true → ops[j]? = some o' → ∀ e ∈ o'.after.toList, Region.binds .any e = true → upd (fun j => listed.getD j false) i e.on = true := by
        intro j o' hj ho'' e he hb
        have hold : (listed.getD e.on false) = true → upd (fun j => listed.getD j false) i e.on = true := fun h => by simp only [upd]; split <;> first | rfl | exact h
        by_cases hji : j = i
        · subst hji
          rw [ho'] at ho''
          injection ho'' with e1
          subst e1
          exact hold (hdep e (by simpa using he) hb)
        · have hj' : listed.getD j false = true := by simpa [upd, hji] using hj
          exact hold (hF.closed j o' hj' ho'' e he hb)
      have hF' : FrOk ops a0 (φ s') (upd (fun j => listed.getD j false) i) (a.put o.dst v) w' := by
        cases hd : o.dst with
        | none =>
          refine ⟨hF.defers, hF.size, fun t ht => hF.other t (fun j o' hj hd' => by have := ht j o' hj hd'; simp only [upd] at this; split at this <;> first | exact this | cases this), fun j o' d hj ho'' hd' => ?_, hcl⟩
          have hji : j ≠ i := by
            rintro rfl
            rw [ho'] at ho''
            injection ho'' with e
            rw [← e, hd] at hd'
            cases hd'
          have hj' : listed.getD j false = true := by simpa [upd, hji] using hj
          obtain ⟨u, hu, hp⟩ := hF.vals j o' d hj' ho'' hd'
          exact ⟨u, hu, hstab j u hj' hp⟩
        | some d0 =>
          refine ⟨hF.defers, by simp [Act.put, hF.size], fun t ht => ?_, fun j o' d hj ho'' hd' => ?_, hcl⟩
          · have : d0 ≠ t := fun e => by
              have := ht i o ho' (by rw [hd, e])
              simp [upd] at this
            simp only [Act.put]
            rw [Array.getElem?_setIfInBounds_ne this]
            exact hF.other t (fun j o' hj hd' => by have := ht j o' hj hd'; simp only [upd] at this; split at this <;> first | exact this | cases this)
          · by_cases hji : j = i
            · subst hji
              rw [ho'] at ho''
              injection ho'' with e
              subst e
              rw [hd] at hd'
              injection hd' with e
              subst e
              have hlt' : d0 < a.tmps.size := by rw [hF.size]; exact hlt o d0 (List.mem_of_getElem? ho') hd
              exact ⟨v, by simp [Act.put, hlt'], hφ (by rw [hd]; rfl)⟩
            · have hj' : listed.getD j false = true := by simpa [upd, hji] using hj
              obtain ⟨u, hu, hp⟩ := hF.vals j o' d hj' ho'' hd'
              have hne : d0 ≠ d := by
                rintro rfl
                exact hji (nodup_dst hnd ho'' ho' hd' hd)
              refine ⟨u, ?_, hstab j u hj' hp⟩
              simp only [Act.put]
              rw [Array.getElem?_setIfInBounds_ne hne]
              exact hu
      refine ih _ _ _ s' (by simp [hs]) ?_ (by rw [hupd]; exact hW') (by rw [hupd]; exact hF')
      rw [hupd]
      have := cntFalse_upd (f := fun j => listed.getD j false) hl0 ops.length hil
      omega
  refine wp_region_any hm ?_
  rw [hsz]
  have hf : (fun j => (Array.replicate ops.length false).getD j false) = fun _ => false := by
    funext j
    rcases Nat.lt_or_ge j ops.length with h | h <;> simp [h]
  refine main ops.length _ a0 w0.drew s0 (by simp) (cntFalse_le _ _) (by rw [hf]; exact h0) ?_
  exact ⟨rfl, rfl, fun _ _ => rfl, fun j o d hj => (by rw [congrFun hf j] at hj; cases hj), fun j o hj => (by rw [congrFun hf j] at hj; cases hj)⟩

def StepOkG {σ : Type} (P : Program) (ops : List Oper) (Q : Exit → Act → World → Prop) (a0 : Act) (φ : σ → Nat → Value → World → Prop) (W : σ → (Nat → Bool) → World → Prop) (i : Nat) (o : Oper) : Prop :=
  ∀ s l a w, l i = false → (∀ e ∈ o.after.toList, Region.binds .any e = true → l e.on = true) → W s l w → FrOk ops a0 (φ s) l a w → GStep P ops Q φ W i o s l a w
theorem wp_region_stepsG {σ : Type} {P : Program} {ops : List Oper} {Q : Exit → Act → World → Prop} {id : Nat} {a0 : Act} {w0 : World} (hm : P.follows .mixedOrders = true)
    (hok : regionOkG ops a0.tmps.size = true)
    (φ : σ → Nat → Value → World → Prop) (W : σ → (Nat → Bool) → World → Prop) (s0 : σ) (h0 : W s0 (fun _ => false) w0.drew)
    (hstep : AllFrom (StepOkG P ops Q a0 φ W) 0 ops)
    (hfin : ∀ s a w, W s (fun j => decide (j < ops.length)) w → FrOk ops a0 (φ s) (fun j => decide (j < ops.length)) a w → Q .normal a w) :
    (Code.region id ops.toArray true).wp P Q a0 w0 :=
  wp_region_invG hm hok φ W s0 h0 (fun i o ho => by have := allFrom_get hstep i o ho; rwa [Nat.zero_add] at this) hfin
/-- an operation without a guard -/
theorem stepG_plain {σ : Type} {P : Program} {ops : List Oper} {Q : Exit → Act → World → Prop} {a0 : Act} {φ : σ → Nat → Value → World → Prop} {W : σ → (Nat → Bool) → World → Prop} {i : Nat} {o : Oper} (hg : o.guard = none) (h : StepOk P ops Q a0 φ W i o) : StepOkG P ops Q a0 φ W i o := by
  intro s l a w hl hd hW hF
  unfold GStep
  rw [if_pos (by simp [Region.wanted, hg])]
  exact h s l a w hl hd hW hF
/-- a guarded operation: what it owes where its guard says yes, and that nothing is lost where it says no -/
theorem stepG_guard {σ : Type} {P : Program} {ops : List Oper} {Q : Exit → Act → World → Prop} {a0 : Act} {φ : σ → Nat → Value → World → Prop} {W : σ → (Nat → Bool) → World → Prop} {i : Nat} {o : Oper}
    (hy : ∀ s l a w, l i = false → (∀ e ∈ o.after.toList, Region.binds .any e = true → l e.on = true) → W s l w → FrOk ops a0 (φ s) l a w → Region.wanted o (yielded ops.toArray a.tmps) = true →
      o.wp P a w (fun a' w' => ∃ s' v, a' = a.put o.dst v ∧ W s' (upd l i) w' ∧ (o.dst.isSome = true → φ s' i v w') ∧ (∀ j u, l j = true → φ s j u w → φ s' j u w')) Q)
    (hn : ∀ s l a w, l i = false → (∀ e ∈ o.after.toList, Region.binds .any e = true → l e.on = true) → W s l w → FrOk ops a0 (φ s) l a w → Region.wanted o (yielded ops.toArray a.tmps) = false → W s (upd l i) w ∧ φ s i undef w) : StepOkG P ops Q a0 φ W i o := by
  intro s l a w hl hd hW hF
  unfold GStep
  by_cases hw : Region.wanted o (yielded ops.toArray a.tmps) = true
  · rw [if_pos hw]; exact hy s l a w hl hd hW hF hw
  · rw [if_neg hw]
    obtain ⟨h1, h2⟩ := hn s l a w hl hd hW hF (by simpa using hw)
    exact ⟨s, undef, rfl, h1, fun _ => h2, fun _ _ _ h => h⟩
end Go.Proofs.YtalcinepeofmcaaDoor
/- The leaves of layer 9: within, maps. -/
namespace Go.Proofs.YtalcinepeofmcaaDoor
open Go Go.RowKit Sp Pt


abbrev mpV (m : Mp) : Value := .agg #[.int .i64 m.add, .int .i64 m.floor, .int .i64 m.most]


end Go.Proofs.YtalcinepeofmcaaDoor
/- hull: within, end, value (printed by wip/tools/hull1.py) -/
namespace Go.Proofs.YtalcinepeofmcaaDoor
open Go Go.RowKit Sp Hu
set_option linter.unusedVariables false
set_option linter.unusedSimpArgs false

def pnt (p : Pnt) : List Value := [.int .i64 p.x, .int .i64 p.y]
abbrev pnts (l : List Pnt) : List Value := l.flatMap pnt
theorem pnts_get {l : List Pnt} {k : Nat} (hk : k < l.length) : (pnts l)[k * 2]? = some (.int .i64 l[k].x) ∧ (pnts l)[k * 2 + 1]? = some (.int .i64 l[k].y) :=
  ⟨flat_get (f := pnt) (s := 2) (fun _ => rfl) hk (j := 0) (by decide), flat_get (f := pnt) (s := 2) (fun _ => rfl) hk (j := 1) (by decide)⟩
theorem pnts_len (l : List Pnt) : (pnts l).length = l.length * 2 := by
  induction l with
  | nil => rfl
  | cons x l ih => simp only [pnts, List.flatMap_cons, List.length_append, pnt, List.length_cons, List.length_nil] at ih ⊢; omega
theorem huin_any (n lo hi : Int) (w : World) :
    Calls Tryd.prog 25 #[.int .i64 n, .int .i64 lo, .int .i64 hi] w fun e w' => e = .returned (.bool (within n lo hi)) ∧ w = w' := by
  go_enter Tryd.func25, Tryd.ntmps25
  go_wp2
  all_goals (go_ret; refine ⟨?_, rfl⟩; simp [within]; try omega)
theorem huend_any (A : Option Addr) (c : Nat) (l : List Pnt) (w : World) (hr : Rd w 2 A l.length (pnts l)) (hl : 0 < l.length) (hm : l.length ≤ 1000) :
    Calls Tryd.prog 92 #[.slice A l.length c] w fun e w' => e = .returned (.int .i64 (endX l)) ∧ w = w' := by
  obtain ⟨b, off, rfl, hb, hc⟩ := hr.2 hl
  obtain ⟨n, hn⟩ : ∃ n, l.length = n + 1 := ⟨l.length - 1, by omega⟩
  have g := hc _ _ (pnts_get (l := l) (k := n) (by omega)).1
  have he : endX l = (l[n]'(by omega)).x := by
    unfold endX
    rw [List.getLastD_eq_getLast?, List.getLast?_eq_getElem?, show l.length - 1 = n by omega, List.getElem?_eq_getElem (by omega)]; rfl
  rw [he]
  obtain ⟨v, hv⟩ : ∃ v, v = (l[n]'(by omega)).x := ⟨_, rfl⟩
  rw [← hv] at g ⊢
  rw [hn]
  have hw : ((n + 1 : Nat) : Int) - 1 = (n : Int) := by omega
  have hn' : n ≤ 1000 := by omega
  clear hr hc he hv hl hm hn
  go_enter Tryd.func92, Tryd.ntmps92
  go_wp2_with fail
  go_ret
  exact ⟨rfl, rfl⟩
structure HvS where
  b1 : Nat
  b2 : Nat

set_option linter.unusedVariables false
def Hv4V (b off n c k j : Nat) (pa pb : Pnt) (s : HvS) : Nat → Value → Prop
  | 0, v => v = .slice (some ⟨b, off, none⟩) n c
  | 1, v => v = .int .i64 k
  | 2, v => v = .int .i64 j
  | 3, v => v = .pointer (some ⟨b, off + j * 2, none⟩)
  | 4, v => v = .agg #[.int .i64 pa.x, .int .i64 pa.y]
  | 5, v => v = .slice (some ⟨b, off, none⟩) n c
  | 6, v => v = .int .i64 k
  | 7, v => v = .pointer (some ⟨b, off + k * 2, none⟩)
  | 8, v => v = .agg #[.int .i64 pb.x, .int .i64 pb.y]
  | 9, v => v = .pointer (some ⟨s.b1, 0, none⟩)
  | 10, v => v = .pointer (some ⟨s.b2, 0, none⟩)
  | _, _ => True
set_option maxRecDepth 100000 in
set_option maxHeartbeats 4000000 in
theorem value_any (A : Option Addr) (c : Nat) (l : List Pnt) (x : Int) (w : World) (hr : Rd w 2 A l.length (pnts l)) (hl : 0 < l.length) (hm : l.length ≤ 1000) (hx : -1000 ≤ x ∧ x ≤ 1000) (hpr : ∀ p ∈ l, 0 ≤ p.x ∧ p.x ≤ 1000 ∧ 0 ≤ p.y ∧ p.y ≤ 100000) :
    Calls Tryd.prog 101 #[.slice A l.length c, .int .i64 x] w fun e w' => e = .returned (.tuple #[.int .i64 (val l x).1, .int .i64 (val l x).2]) ∧ Below w.heap.size w w' := by
  obtain ⟨b, off, rfl, hb, hc⟩ := hr.2 hl
  have HC := Lib.hid (And.intro hc hpr)
  clear hr hc hpr
  go_enter Tryd.func101, Tryd.ntmps101
  go_wp2_with fail
  go_loopg [6] (l.length - 1) (fun g i wr => ∃ k : Nat, g + k = l.length ∧ 1 ≤ k ∧ i = .int .i64 k ∧ val (l.drop (k - 1)) x = val l x ∧ Below w.heap.size w wr)
  case atStart => exact ⟨1, by omega, by omega, rfl, by simp, Below.refl _ _⟩
  case round =>
    obtain ⟨k, hk, hk1, rfl, hv, bb⟩ := hrel
    obtain ⟨j, rfl⟩ : ∃ j, k = j + 1 := ⟨k - 1, by omega⟩
    rw [Nat.add_sub_cancel] at hv
    obtain ⟨k, hkj⟩ : ∃ k, k = j + 1 := ⟨_, rfl⟩
    rw [← hkj] at hk hk1 ⊢
    have HKJ := Lib.hid hkj
    have hj1 : j < k ∧ k ≤ j + 1 := by omega
    clear hkj
    have HB := Lib.hid (And.intro bb hv)
    clear bb hv
    by_cases hlt : k < l.length
    · have hjl : j < l.length := by omega
      have gj := pnts_get (l := l) (k := j) hjl
      have gk' := pnts_get (l := l) (k := k) hlt
      have hbw : b < wr.heap.size := Nat.lt_of_lt_of_le hb HB.out.1.size
      have hpa := HC.out.2 _ (List.getElem_mem hjl)
      have hpb := HC.out.2 _ (List.getElem_mem hlt)
      have cj0 := (HB.out.1.cell (p := ⟨b, off + j * 2, none⟩) hb).trans (HC.out.1 _ _ gj.1)
      have cj1 : wr.cell? ⟨b, off + j * 2 + 1, none⟩ = some (.int .i64 l[j].y) := (HB.out.1.cell (p := ⟨b, off + j * 2 + 1, none⟩) hb).trans (by rw [Nat.add_assoc]; exact HC.out.1 _ _ gj.2)
      have ck0 := (HB.out.1.cell (p := ⟨b, off + k * 2, none⟩) hb).trans (HC.out.1 _ _ gk'.1)
      have ck1 : wr.cell? ⟨b, off + k * 2 + 1, none⟩ = some (.int .i64 l[k].y) := (HB.out.1.cell (p := ⟨b, off + k * 2 + 1, none⟩) hb).trans (by rw [Nat.add_assoc]; exact HC.out.1 _ _ gk'.2)
      have hd : l.drop j = l[j] :: l[k] :: l.drop (k + 1) := by
        rw [List.drop_eq_getElem_cons hjl]
        congr 1
        have e := HKJ.out
        subst e
        rw [List.drop_eq_getElem_cons hlt]
      have hdk : l.drop k = l[k] :: l.drop (k + 1) := List.drop_eq_getElem_cons hlt
      obtain ⟨pa, hpae⟩ : ∃ q, q = l[j] := ⟨_, rfl⟩
      obtain ⟨pb, hpbe⟩ : ∃ q, q = l[k] := ⟨_, rfl⟩
      rw [← hpae] at hpa cj0 cj1 hd
      rw [← hpbe] at hpb ck0 ck1 hd hdk
      have hvv := HB.out.2
      rw [hd, val] at hvv
      have HP := Lib.hid (And.intro (And.intro cj0 cj1) (And.intro ck0 ck1))
      have HV := Lib.hid (And.intro hvv hdk)
      have zb := hbw
      clear hd hdk hvv hpae hpbe gj gk' cj0 cj1 ck0 ck1 hbw hjl
      go_wp2_with fail
      refine wp_region_steps (σ := HvS) (by kernel_rfl) (by kernel_rfl) (fun sg jx vx _ => Hv4V b off l.length c k j pa pb sg jx vx) (fun sg ly wx => Own wr.heap.size wr [if ly 9 = true then It.blk sg.b1 (.cells (if ly 11 = true then #[.int .i64 pa.x, .int .i64 pa.y] else #[.int .i64 0, .int .i64 0]) 63) else noIt, if ly 10 = true then It.blk sg.b2 (.cells (if ly 12 = true then #[.int .i64 pb.x, .int .i64 pb.y] else #[.int .i64 0, .int .i64 0]) 63) else noIt] wx) ⟨0, 0⟩ ?_ ?_ ?_
      · exact (Own.start wr).blank.blank.drew
      · simp only [AllFrom, Nat.zero_add, Nat.reduceAdd]
        refine ⟨?_, ?_, ?_, ?_, ?_, ?_, ?_, ?_, ?_, ?_, ?_, ?_, ?_, trivial⟩
        · refine step_pure fun sg ly act wx hl hd hW hF => ?_
          have et0 := hF.old 0 (by kernel_rfl)
          simp [Act.eval] at et0
          exact ⟨hW, .slice (some ⟨b, off, none⟩) l.length c, by go_simp, rfl⟩
        · refine step_pure fun sg ly act wx hl hd hW hF => ?_
          have et6 := hF.old 6 (by kernel_rfl)
          simp [Act.eval] at et6
          exact ⟨hW, .int .i64 k, by go_simp, rfl⟩
        · refine step_pure fun sg ly act wx hl hd hW hF => ?_
          simp [Region.binds] at hd
          have et16 := hF.new 1 16 (by simp [hd]) rfl
          simp [Hv4V, Act.eval] at et16
          have ew : IntKind.i64.wrap ((k : Int) - 1) = (j : Int) := by rw [IntWalk.i64_in _ (by omega)]; omega
          exact ⟨hW, .int .i64 j, by go_simp, rfl⟩
        · refine step_pure fun sg ly act wx hl hd hW hF => ?_
          simp [Region.binds] at hd
          have et15 := hF.new 0 15 (by simp [hd]) rfl
          simp [Hv4V, Act.eval] at et15
          have et17 := hF.new 2 17 (by simp [hd]) rfl
          simp [Hv4V, Act.eval] at et17
          have hjl : (j : Int) < (l.length : Int) := by omega
          exact ⟨hW, .pointer (some ⟨b, off + j * 2, none⟩), by go_simp, rfl⟩
        · refine step_pure fun sg ly act wx hl hd hW hF => ?_
          simp [Region.binds] at hd
          have et18 := hF.new 3 18 (by simp [hd]) rfl
          simp [Hv4V, Act.eval] at et18
          have hO := hW
          try dsimp only at hO
          have c0 := (hO.bel.cell (p := ⟨b, off + j * 2, none⟩) zb).trans HP.out.1.1
          have c1 := (hO.bel.cell (p := ⟨b, off + j * 2 + 1, none⟩) zb).trans HP.out.1.2
          have zz := Nat.lt_of_lt_of_le zb hO.bel.size
          exact ⟨hW, .agg #[.int .i64 pa.x, .int .i64 pa.y], by go_simp, rfl⟩
        · refine step_pure fun sg ly act wx hl hd hW hF => ?_
          have et0 := hF.old 0 (by kernel_rfl)
          simp [Act.eval] at et0
          exact ⟨hW, .slice (some ⟨b, off, none⟩) l.length c, by go_simp, rfl⟩
        · refine step_pure fun sg ly act wx hl hd hW hF => ?_
          have et6 := hF.old 6 (by kernel_rfl)
          simp [Act.eval] at et6
          exact ⟨hW, .int .i64 k, by go_simp, rfl⟩
        · refine step_pure fun sg ly act wx hl hd hW hF => ?_
          simp [Region.binds] at hd
          have et20 := hF.new 5 20 (by simp [hd]) rfl
          simp [Hv4V, Act.eval] at et20
          have et21 := hF.new 6 21 (by simp [hd]) rfl
          simp [Hv4V, Act.eval] at et21
          have hkl : (k : Int) < (l.length : Int) := by omega
          exact ⟨hW, .pointer (some ⟨b, off + k * 2, none⟩), by go_simp, rfl⟩
        · refine step_pure fun sg ly act wx hl hd hW hF => ?_
          simp [Region.binds] at hd
          have et22 := hF.new 7 22 (by simp [hd]) rfl
          simp [Hv4V, Act.eval] at et22
          have hO := hW
          try dsimp only at hO
          have c0 := (hO.bel.cell (p := ⟨b, off + k * 2, none⟩) zb).trans HP.out.2.1
          have c1 := (hO.bel.cell (p := ⟨b, off + k * 2 + 1, none⟩) zb).trans HP.out.2.2
          have zz := Nat.lt_of_lt_of_le zb hO.bel.size
          exact ⟨hW, .agg #[.int .i64 pb.x, .int .i64 pb.y], by go_simp, rfl⟩
        · refine step_run fun sg ly act wx hl hd hW hF => ?_
          have n11 := hF.notYet 9 11 hl (by kernel_rfl)
          have hO := hW
          try dsimp only at hO
          simp only [hl, n11, Bool.false_eq_true, if_false, if_true] at hO
          refine ⟨_, wx.alloc (.cells #[.int .i64 0, .int .i64 0] 63), { sg with b1 := wx.heap.size }, by go_simp, ?_, rfl, ?_⟩
          · have hN := hO.newB 0 rfl (.cells #[.int .i64 0, .int .i64 0] 63)
            simpa [upd, n11] using hN
          · intro i u hi h
            have i9 : i ≠ 9 := by rintro rfl; rw [hl] at hi; cases hi
            have i11 : i ≠ 11 := by rintro rfl; rw [n11] at hi; cases hi
            unfold Hv4V at h ⊢
            split at h <;> first | exact h | exact absurd rfl i9 | exact absurd rfl i11
        · refine step_run fun sg ly act wx hl hd hW hF => ?_
          have n12 := hF.notYet 10 12 hl (by kernel_rfl)
          have hO := hW
          try dsimp only at hO
          simp only [hl, n12, Bool.false_eq_true, if_false, if_true] at hO
          refine ⟨_, wx.alloc (.cells #[.int .i64 0, .int .i64 0] 63), { sg with b2 := wx.heap.size }, by go_simp, ?_, rfl, ?_⟩
          · have hN := hO.newB 1 rfl (.cells #[.int .i64 0, .int .i64 0] 63)
            simpa [upd, n12] using hN
          · intro i u hi h
            have i10 : i ≠ 10 := by rintro rfl; rw [hl] at hi; cases hi
            have i12 : i ≠ 12 := by rintro rfl; rw [n12] at hi; cases hi
            unfold Hv4V at h ⊢
            split at h <;> first | exact h | exact absurd rfl i10 | exact absurd rfl i12
        · refine step_store rfl fun sg ly act wx hl hd hW hF => ?_
          simp [Region.binds] at hd
          have et7 := hF.new 9 7 (by simp [hd]) rfl
          simp [Hv4V, Act.eval] at et7
          have et19 := hF.new 4 19 (by simp [hd]) rfl
          simp [Hv4V, Act.eval] at et19
          have y9 : ly 9 = true := by simp [hd]
          have hO := hW
          try dsimp only at hO
          simp only [hl, y9, Bool.false_eq_true, if_false, if_true] at hO
          have hh := hO.heap 0 rfl
          have clq0 := (cell_of_heap hh 0).trans rfl
          have flq0 := frozen_of_heap hh 0
          have clq1 := (cell_of_heap hh 1).trans rfl
          have flq1 := frozen_of_heap hh 1
          have zz := heap_lt hh
          refine ⟨((wx.setCell ⟨sg.b1, 0, none⟩ (.int .i64 pa.x)).setCell ⟨sg.b1, 1, none⟩ (.int .i64 pa.y)), sg, .skip, by go_simp, .inl rfl, ?_, fun _ _ _ h => h⟩
          have hN := hO.set 0 rfl (((Keep.refl _ _).setCell (.inl (by simp)) (.int .i64 pa.x)).setCell (.inl (by simp)) (.int .i64 pa.y)) (heap_set (heap_set (hh) 0 (.int .i64 pa.x)) 1 (.int .i64 pa.y))
          simpa [upd, y9, hl] using hN
        · refine step_store rfl fun sg ly act wx hl hd hW hF => ?_
          simp [Region.binds] at hd
          have et8 := hF.new 10 8 (by simp [hd]) rfl
          simp [Hv4V, Act.eval] at et8
          have et23 := hF.new 8 23 (by simp [hd]) rfl
          simp [Hv4V, Act.eval] at et23
          have y10 : ly 10 = true := by simp [hd]
          have hO := hW
          try dsimp only at hO
          simp only [hl, y10, Bool.false_eq_true, if_false, if_true] at hO
          have hh := hO.heap 1 rfl
          have clq0 := (cell_of_heap hh 0).trans rfl
          have flq0 := frozen_of_heap hh 0
          have clq1 := (cell_of_heap hh 1).trans rfl
          have flq1 := frozen_of_heap hh 1
          have zz := heap_lt hh
          refine ⟨((wx.setCell ⟨sg.b2, 0, none⟩ (.int .i64 pb.x)).setCell ⟨sg.b2, 1, none⟩ (.int .i64 pb.y)), sg, .skip, by go_simp, .inl rfl, ?_, fun _ _ _ h => h⟩
          have hN := hO.set 1 rfl (((Keep.refl _ _).setCell (.inl (by simp)) (.int .i64 pb.x)).setCell (.inl (by simp)) (.int .i64 pb.y)) (heap_set (heap_set (hh) 0 (.int .i64 pb.x)) 1 (.int .i64 pb.y))
          simpa [upd, y10, hl] using hN
      intro sg af w8 hWW hF
      have e7 := hF.new 9 7 (by decide) rfl
      have e8 := hF.new 10 8 (by decide) rfl
      obtain ⟨ff, hf, rfl⟩ := hF.lit
      obtain ⟨b1, b2⟩ := sg
      rw [← hf] at e7 e8
      simp only [Hv4V] at e7 e8
      have O8 : Own wr.heap.size wr [if (fun j => decide (j < List.length (_ : List Oper))) 9 = true then It.blk (HvS.mk b1 b2).b1 (.cells (if (fun j => decide (j < List.length (_ : List Oper))) 11 = true then #[.int .i64 pa.x, .int .i64 pa.y] else #[.int .i64 0, .int .i64 0]) 63) else noIt, if (fun j => decide (j < List.length (_ : List Oper))) 10 = true then It.blk (HvS.mk b1 b2).b2 (.cells (if (fun j => decide (j < List.length (_ : List Oper))) 12 = true then #[.int .i64 pb.x, .int .i64 pb.y] else #[.int .i64 0, .int .i64 0]) 63) else noIt] w8 := hWW
      simp only [List.length_cons, List.length_nil, Nat.reduceAdd, Nat.reduceLT, decide_true, if_true] at O8
      have h1 := O8.heap 0 rfl
      have h2 := O8.heap 1 rfl
      have y0 := (cell_of_heap h1 0).trans rfl
      have y1 := (cell_of_heap h1 1).trans rfl
      have x0 := (cell_of_heap h2 0).trans rfl
      have x1 := (cell_of_heap h2 1).trans rfl
      have z1 := heap_lt h1
      have z2 := heap_lt h2
      have H8 := Lib.hid (HB.out.1.trans (O8.bel.mono HB.out.1.size))
      clear hWW hF hf O8 h1 h2
      simp only [List.filterMap, List.foldl, List.setIfInBounds_toArray, List.set_cons_succ, List.set_cons_zero, e7, e8]
      clear e7 e8
      by_cases hle : x ≤ pb.x
      · have d1 : decide (x ≤ pb.x) = true := decide_eq_true hle
        have b1 := mul_bd (A := 100000) (B := 1000) (a := pa.y) (b := pb.x - pa.x) (by omega) (by omega)
        have b2 := mul_bd (A := 100000) (B := 2000) (a := pb.y - pa.y) (b := x - pa.x) (by omega) (by omega)
        have e1 := HV.out.1
        rw [if_pos hle] at e1
        have HE := Lib.hid e1
        clear e1
        go_wp2_with fail
        go_quiet (fail)
        go_wp2_with fail
        go_ret2
        exact ⟨by rw [← HE.out]; rfl, below_drewN H8.out _⟩
      · have d1 : decide (x ≤ pb.x) = false := decide_eq_false hle
        go_wp2_with fail
        go_roundg (gk - 1)
        case measure => omega
        case rel => exact ⟨k + 1, by omega, by omega, by go_num, by rw [Nat.add_sub_cancel, HV.out.2, ← HV.out.1, if_neg (by omega)], H8.out⟩
    · obtain ⟨n, hn⟩ : ∃ n, l.length = n + 1 := ⟨l.length - 1, by omega⟩
      obtain rfl : j = n := by omega
      have gj := pnts_get (l := l) (k := j) (by omega)
      have hbw : b < wr.heap.size := Nat.lt_of_lt_of_le hb HB.out.1.size
      have cj1 : wr.cell? ⟨b, off + j * 2 + 1, none⟩ = some (.int .i64 (l[j]'(by omega)).y) := (HB.out.1.cell (p := ⟨b, off + j * 2 + 1, none⟩) hb).trans (by rw [Nat.add_assoc]; exact HC.out.1 _ _ gj.2)
      have hv := HB.out.2
      have hd : l.drop j = [l[j]'(by omega)] := by
        rw [List.drop_eq_getElem_cons (by omega)]
        congr 1
        exact List.drop_eq_nil_of_le (by omega)
      rw [hd, val] at hv
      obtain ⟨y, hy⟩ : ∃ y, y = (l[j]'(by omega)).y := ⟨_, rfl⟩
      rw [← hy] at hv cj1
      have hnl : l.length - 1 = j := by omega
      have hlj : (l.length : Int) - 1 = (j : Int) := by omega
      have HV := Lib.hid hv
      clear hv hd hy gj
      have hlt' : ¬ k < l.length := hlt
      go_wp2_with fail
      go_ret2
      exact ⟨by rw [← HV.out]; rfl, HB.out.1⟩
end Go.Proofs.YtalcinepeofmcaaDoor
/- Guards that are decided: a guarded operation that is carried out, or that is not. -/
namespace Go.Proofs.YtalcinepeofmcaaDoor
open Go
set_option linter.unusedVariables false

section
variable {σ : Type} {P : Program} {ops : List Oper} {Q : Exit → Act → World → Prop} {a0 : Act} {φ : σ → Nat → Value → World → Prop} {W : σ → (Nat → Bool) → World → Prop} {i : Nat} {o : Oper}
theorem wanted_eq {φ : Nat → Value → World → Prop} {l : Nat → Bool} {a : Act} {w : World} (hF : FrOk ops a0 φ l a w) {g d : Nat} {b z : Bool} (ho : o.guard = some (g, b)) (hd : (ops[g]?).bind (·.dst) = some d) (hl : l g = true) (hφ : ∀ v, φ g v w → v = .bool z) :
    Region.wanted o (yielded ops.toArray a.tmps) = (z == b) := by
  cases hg : ops[g]? with
  | none => rw [hg] at hd; cases hd
  | some og =>
    rw [hg] at hd
    obtain ⟨v, hv, hp⟩ := hF.vals g og d hl hg hd
    rw [hφ v hp] at hv
    have hd' : og.dst = some d := hd
    simp [Region.wanted, ho, yielded, hg, hd', hv]
theorem stepG_yes (h : StepOk P ops Q a0 φ W i o) (hw : ∀ (s : σ) (l : Nat → Bool) (a : Act) (w : World), (∀ e ∈ o.after.toList, Region.binds .any e = true → l e.on = true) → FrOk ops a0 (φ s) l a w → Region.wanted o (yielded ops.toArray a.tmps) = true) : StepOkG P ops Q a0 φ W i o :=
  stepG_guard (fun s l a w hl hd hW hF _ => h s l a w hl hd hW hF) (fun s l a w hl hd hW hF hn => by rw [hw s l a w hd hF] at hn; cases hn)
theorem stepG_no (h : ∀ (s : σ) (l : Nat → Bool) (a : Act) (w : World), l i = false → W s l w → W s (upd l i) w ∧ φ s i undef w) (hw : ∀ (s : σ) (l : Nat → Bool) (a : Act) (w : World), (∀ e ∈ o.after.toList, Region.binds .any e = true → l e.on = true) → FrOk ops a0 (φ s) l a w → Region.wanted o (yielded ops.toArray a.tmps) = false) : StepOkG P ops Q a0 φ W i o :=
  stepG_guard (fun s l a w hl hd hW hF hn => by rw [hw s l a w hd hF] at hn; cases hn) (fun s l a w hl hd hW hF _ => h s l a w hl hW)
end
end Go.Proofs.YtalcinepeofmcaaDoor
