import Derived.Test.YtalcinepeofmcaaPSp1
import Derived.WalkKit
import Derived.Test.YtalcinepeofmcaaPSp0
import Derived.Laws.MakeOwn
import Derived.Deep.DeepCutAuto
set_option linter.unusedVariables false
set_option linter.unusedSimpArgs false
set_option maxRecDepth 100000
set_option maxHeartbeats 40000000
namespace Go.Proofs.Ytalcinepeofmcaa
open Go
def regionOkG (ops : List Oper) (n : Nat) : Bool :=
  (ops.filterMap (·.dst)).Nodup && (ops.filterMap (·.dst)).all (· < n) && ops.zipIdx.all (fun p => p.1.after.toList.all fun e => !Region.binds .any e || decide (e.on < p.2))
def GStep {σ : Type} (P : Program) (ops : List Oper) (Q : Exit → Act → World → Prop) (φ : σ → Nat → Value → World → Prop) (W : σ → (Nat → Bool) → World → Prop) (i : Nat) (o : Oper) (s : σ) (l : Nat → Bool) (a : Act) (w : World) : Prop :=
  if Region.wanted o (yielded ops.toArray a.tmps) = true then o.wp P a w (fun a' w' => ∃ s' v, a' = a.put o.dst v ∧ W s' (upd l i) w' ∧ (o.dst.isSome = true → φ s' i v w') ∧ (∀ j u, l j = true → φ s j u w → φ s' j u w')) Q
  else ∃ s' v, a.put o.dst undef = a.put o.dst v ∧ W s' (upd l i) w ∧ (o.dst.isSome = true → φ s' i v w) ∧ (∀ j u, l j = true → φ s j u w → φ s' j u w)
theorem wp_region_invG {σ : Type} {P : Program} {ops : List Oper} {Q : Exit → Act → World → Prop} {id : Nat} {a0 : Act} {w0 : World} (hm : P.follows .mixedOrders = true)
    (hok : regionOkG ops a0.tmps.size = true)
    (φ : σ → Nat → Value → World → Prop) (W : σ → (Nat → Bool) → World → Prop) (s0 : σ) (h0 : W s0 (fun _ => false) w0.drew)
    (hstep : ∀ i o, ops[i]? = some o → ∀ s l a w, l i = false → (∀ e ∈ o.after.toList, Region.binds .any e = true → l e.on = true) → W s l w → FrOk ops a0 (φ s) l a w →
      GStep P ops Q φ W i o s l a w)
    (hfin : ∀ s a w, W s (fun j => decide (j < ops.length)) w → FrOk ops a0 (φ s) (fun j => decide (j < ops.length)) a w → Q .normal a w) :
    (Code.region id ops.toArray true).wp P Q a0 w0 := by
  simp only [regionOkG, Bool.and_eq_true, decide_eq_true_eq] at hok;obtain ⟨⟨hnd, hltB⟩, hgB⟩ := hok;have hlt : ∀ (o : Oper) (d : Nat), o ∈ ops → o.dst = some d → d < a0.tmps.size := fun o d ho hd => by
    have := List.all_eq_true.1 hltB d (List.mem_filterMap.2 ⟨o, ho, hd⟩);simpa using this
  have hg : ∀ i o, ops[i]? = some o → True ∧ ∀ e ∈ o.after.toList, Region.binds .any e = true → e.on < i := fun i o ho => by
    have := List.all_eq_true.1 hgB (o, i) (List.mem_zipIdx_iff_getElem?.2 ho);simp only at this;refine ⟨trivial, fun e he hb => ?_⟩;have h2 := List.all_eq_true.1 this e he;simpa [hb] using h2
  have hsz : ops.toArray.size = ops.length := by simp
  have hall : ∀ listed : Array Bool, listed.size = ops.length → Region.ready .any ops.toArray listed = [] → ∀ n, ∀ j, j < n → j < ops.length → listed.getD j false = true := by
    intro listed hls hr n;induction n with
    | zero => intro j hj; omega
    | succ n ih =>
      intro j hj hjl;by_cases hjn : j < n
      · exact ih j hjn hjl
      · obtain rfl : j = n := by omega
        cases hl : listed.getD j false with
        | true => rfl
        | false =>
          exfalso;have hl' : listed.getD j true = false ∨ listed.size ≤ j := by
            rcases Nat.lt_or_ge j listed.size with h | h
            · left; simp [h] at hl ⊢; exact hl
            · exact .inr h
          have ho : ops[j]? = some ops[j] := List.getElem?_eq_getElem hjl;rcases hl' with hl' | hl'
          · have : j ∈ Region.ready .any ops.toArray listed := mem_ready.2 ⟨hl', ops[j], by simp [hjl], fun e he hb => ih e.on ((hg j _ ho).2 e (by simpa using he) hb) (by have := (hg j _ ho).2 e (by simpa using he) hb; omega)⟩;rw [hr] at this;cases this
          · omega
  have main : ∀ fuel (listed : Array Bool) (a : Act) (w : World) (s : σ), listed.size = ops.length → cntFalse (fun j => listed.getD j false) ops.length ≤ fuel → W s (fun j => listed.getD j false) w → FrOk ops a0 (φ s) (fun j => listed.getD j false) a w →
      wpAny P .any ops.toArray Q fuel listed a w := by
    intro fuel;have hend : ∀ (listed : Array Bool) (a : Act) (w : World) (s : σ), listed.size = ops.length → (∀ j, j < ops.length → listed.getD j false = true) → W s (fun j => listed.getD j false) w → FrOk ops a0 (φ s) (fun j => listed.getD j false) a w → Q .normal a w := by
      intro listed a w s hs hl hW hF;have he : (fun j => listed.getD j false) = fun j => decide (j < ops.length) := by
        funext j
        by_cases hj : j < ops.length
        · rw [hl j hj]; simp [hj]
        · simp [hj, hs]
      rw [he] at hW hF;exact hfin s a w hW hF
    induction fuel with
    | zero =>
      intro listed a w s hs hc hW hF;have hl := cntFalse_zero ops.length (Nat.le_zero.1 hc);refine ⟨?_, hend listed a w s hs hl hW hF⟩;apply List.eq_nil_iff_forall_not_mem.2;intro i hi;obtain ⟨h1, o, ho, _⟩ := mem_ready.1 hi;have hil : i < ops.length := by simpa using (Array.getElem?_eq_some_iff.1 ho).1
      have h2 := hl i hil;have : i < listed.size := by omega
      simp [this] at h1 h2;rw [h2] at h1;cases h1
    | succ fuel ih =>
      intro listed a w s hs hc hW hF;refine ⟨fun hr => hend listed a w s hs (fun j hj => hall listed hs hr (j + 1) j (by omega) hj) hW hF, fun i hi => ?_⟩;obtain ⟨h1, o, ho, hdep⟩ := mem_ready.1 hi;have hil : i < ops.length := by simpa using (Array.getElem?_eq_some_iff.1 ho).1
      have ho' : ops[i]? = some o := by rw [← ho]; simp
      have hli : i < listed.size := by omega
      have hl0 : listed.getD i false = false := by simp [hli] at h1 ⊢; exact h1
      have hst := hstep i o ho' s (fun j => listed.getD j false) a w hl0 (fun e he hb => hdep e (by simpa using he) hb) hW hF;unfold wpOp;rw [ho];have key : ∀ a' w', (∃ s' v, a' = a.put o.dst v ∧ W s' (upd (fun j => listed.getD j false) i) w' ∧ (o.dst.isSome = true → φ s' i v w') ∧ (∀ j u, (fun j => listed.getD j false) j = true → φ s j u w → φ s' j u w')) → wpAny P .any ops.toArray Q fuel (listed.setIfInBounds i true) a' w' := ?_
      · unfold GStep at hst;simp only;by_cases hw : Region.wanted o (yielded ops.toArray a.tmps) = true
        · rw [if_pos hw] at hst ⊢;exact .inl (Oper.wp_mono key hst)
        · rw [if_neg hw] at hst ⊢;exact key _ _ hst
      rintro a' w' ⟨s', v, rfl, hW', hφ, hstab⟩;have hupd : (fun j => (listed.setIfInBounds i true).getD j false) = upd (fun j => listed.getD j false) i := by
        funext j
        simp only [upd];split
        · rename_i hj; subst hj; simp [hli]
        · rename_i hj; rw [getD_set_ne false (Ne.symm hj)]
      have hcl : ∀ j o', upd (fun j => listed.getD j false) i j = true → ops[j]? = some o' → ∀ e ∈ o'.after.toList, Region.binds .any e = true → upd (fun j => listed.getD j false) i e.on = true := by
        intro j o' hj ho'' e he hb;have hold : (listed.getD e.on false) = true → upd (fun j => listed.getD j false) i e.on = true := fun h => by simp only [upd]; split <;> first | rfl | exact h
        by_cases hji : j = i
        · subst hji;rw [ho'] at ho'';injection ho'' with e1
          subst e1;exact hold (hdep e (by simpa using he) hb)
        · have hj' : listed.getD j false = true := by simpa [upd, hji] using hj
          exact hold (hF.closed j o' hj' ho'' e he hb)
      have hF' : FrOk ops a0 (φ s') (upd (fun j => listed.getD j false) i) (a.put o.dst v) w' := by
        cases hd : o.dst with
        | none =>
          refine ⟨hF.defers, hF.size, fun t ht => hF.other t (fun j o' hj hd' => by have := ht j o' hj hd'; simp only [upd] at this; split at this <;> first | exact this | cases this), fun j o' d hj ho'' hd' => ?_, hcl⟩;have hji : j ≠ i := by
            rintro rfl;rw [ho'] at ho'';injection ho'' with e
            rw [← e, hd] at hd';cases hd'
          have hj' : listed.getD j false = true := by simpa [upd, hji] using hj
          obtain ⟨u, hu, hp⟩ := hF.vals j o' d hj' ho'' hd';exact ⟨u, hu, hstab j u hj' hp⟩
        | some d0 =>
          refine ⟨hF.defers, by simp [Act.put, hF.size], fun t ht => ?_, fun j o' d hj ho'' hd' => ?_, hcl⟩
          · have : d0 ≠ t := fun e => by
              have := ht i o ho' (by rw [hd, e]);simp [upd] at this
            simp only [Act.put];rw [Array.getElem?_setIfInBounds_ne this];exact hF.other t (fun j o' hj hd' => by have := ht j o' hj hd'; simp only [upd] at this; split at this <;> first | exact this | cases this)
          · by_cases hji : j = i
            · subst hji;rw [ho'] at ho'';injection ho'' with e
              subst e;rw [hd] at hd';injection hd' with e
              subst e;have hlt' : d0 < a.tmps.size := by rw [hF.size]; exact hlt o d0 (List.mem_of_getElem? ho') hd
              exact ⟨v, by simp [Act.put, hlt'], hφ (by rw [hd]; rfl)⟩
            · have hj' : listed.getD j false = true := by simpa [upd, hji] using hj
              obtain ⟨u, hu, hp⟩ := hF.vals j o' d hj' ho'' hd';have hne : d0 ≠ d := by
                rintro rfl;exact hji (nodup_dst hnd ho'' ho' hd' hd)
              refine ⟨u, ?_, hstab j u hj' hp⟩;simp only [Act.put];rw [Array.getElem?_setIfInBounds_ne hne];exact hu
      refine ih _ _ _ s' (by simp [hs]) ?_ (by rw [hupd]; exact hW') (by rw [hupd]; exact hF');rw [hupd];have := cntFalse_upd (f := fun j => listed.getD j false) hl0 ops.length hil;omega
  refine wp_region_any hm ?_;rw [hsz];have hf : (fun j => (Array.replicate ops.length false).getD j false) = fun _ => false := by
    funext j
    rcases Nat.lt_or_ge j ops.length with h | h <;> simp [h]
  refine main ops.length _ a0 w0.drew s0 (by simp) (cntFalse_le _ _) (by rw [hf]; exact h0) ?_;exact ⟨rfl, rfl, fun _ _ => rfl, fun j o d hj => (by rw [congrFun hf j] at hj; cases hj), fun j o hj => (by rw [congrFun hf j] at hj; cases hj)⟩
def StepOkG {σ : Type} (P : Program) (ops : List Oper) (Q : Exit → Act → World → Prop) (a0 : Act) (φ : σ → Nat → Value → World → Prop) (W : σ → (Nat → Bool) → World → Prop) (i : Nat) (o : Oper) : Prop :=
  ∀ s l a w, l i = false → (∀ e ∈ o.after.toList, Region.binds .any e = true → l e.on = true) → W s l w → FrOk ops a0 (φ s) l a w → GStep P ops Q φ W i o s l a w
theorem wp_region_stepsG {σ : Type} {P : Program} {ops : List Oper} {Q : Exit → Act → World → Prop} {id : Nat} {a0 : Act} {w0 : World} (hm : P.follows .mixedOrders = true)
    (hok : regionOkG ops a0.tmps.size = true)
    (φ : σ → Nat → Value → World → Prop) (W : σ → (Nat → Bool) → World → Prop) (s0 : σ) (h0 : W s0 (fun _ => false) w0.drew)
    (hstep : AllFrom (StepOkG P ops Q a0 φ W) 0 ops)
    (hfin : ∀ s a w, W s (fun j => decide (j < ops.length)) w → FrOk ops a0 (φ s) (fun j => decide (j < ops.length)) a w → Q .normal a w) :
    (Code.region id ops.toArray true).wp P Q a0 w0 :=
  wp_region_invG hm hok φ W s0 h0 (fun i o ho => by have := allFrom_get hstep i o ho; rwa [Nat.zero_add] at this) hfin
theorem gP_ {σ : Type} {P : Program} {ops : List Oper} {Q : Exit → Act → World → Prop} {a0 : Act} {φ : σ → Nat → Value → World → Prop} {W : σ → (Nat → Bool) → World → Prop} {i : Nat} {o : Oper} (hg : o.guard = none) (h : StepOk P ops Q a0 φ W i o) : StepOkG P ops Q a0 φ W i o := by
  intro s l a w hl hd hW hF;unfold GStep;rw [if_pos (by simp [Region.wanted, hg])];exact h s l a w hl hd hW hF
theorem stepG_guard {σ : Type} {P : Program} {ops : List Oper} {Q : Exit → Act → World → Prop} {a0 : Act} {φ : σ → Nat → Value → World → Prop} {W : σ → (Nat → Bool) → World → Prop} {i : Nat} {o : Oper}
    (hy : ∀ s l a w, l i = false → (∀ e ∈ o.after.toList, Region.binds .any e = true → l e.on = true) → W s l w → FrOk ops a0 (φ s) l a w → Region.wanted o (yielded ops.toArray a.tmps) = true →
      o.wp P a w (fun a' w' => ∃ s' v, a' = a.put o.dst v ∧ W s' (upd l i) w' ∧ (o.dst.isSome = true → φ s' i v w') ∧ (∀ j u, l j = true → φ s j u w → φ s' j u w')) Q)
    (hn : ∀ s l a w, l i = false → (∀ e ∈ o.after.toList, Region.binds .any e = true → l e.on = true) → W s l w → FrOk ops a0 (φ s) l a w → Region.wanted o (yielded ops.toArray a.tmps) = false → W s (upd l i) w ∧ φ s i undef w) : StepOkG P ops Q a0 φ W i o := by
  intro s l a w hl hd hW hF;unfold GStep;by_cases hw : Region.wanted o (yielded ops.toArray a.tmps) = true
  · rw [if_pos hw]; exact hy s l a w hl hd hW hF hw
  · rw [if_neg hw];obtain ⟨h1, h2⟩ := hn s l a w hl hd hW hF (by simpa using hw);exact ⟨s, undef, rfl, h1, fun _ => h2, fun _ _ _ h => h⟩
end Go.Proofs.Ytalcinepeofmcaa
namespace Go.Proofs.Ytalcinepeofmcaa
open Go
section
variable {σ : Type} {P : Program} {ops : List Oper} {Q : Exit → Act → World → Prop} {a0 : Act} {φ : σ → Nat → Value → World → Prop} {W : σ → (Nat → Bool) → World → Prop} {i : Nat} {o : Oper}
theorem wQ_ {φ : Nat → Value → World → Prop} {l : Nat → Bool} {a : Act} {w : World} (hF : FrOk ops a0 φ l a w) {g d : Nat} {b z : Bool} (ho : o.guard = some (g, b)) (hd : (ops[g]?).bind (·.dst) = some d) (hl : l g = true) (hφ : ∀ v, φ g v w → v = .bool z) :
    Region.wanted o (yielded ops.toArray a.tmps) = (z == b) := by
  cases hg : ops[g]? with
  | none => rw [hg] at hd; cases hd
  | some og =>
    rw [hg] at hd;obtain ⟨v, hv, hp⟩ := hF.vals g og d hl hg hd;rw [hφ v hp] at hv;have hd' : og.dst = some d := hd;simp [Region.wanted, ho, yielded, hg, hd', hv]
theorem stepG_yes (h : StepOk P ops Q a0 φ W i o) (hw : ∀ (s : σ) (l : Nat → Bool) (a : Act) (w : World), (∀ e ∈ o.after.toList, Region.binds .any e = true → l e.on = true) → FrOk ops a0 (φ s) l a w → Region.wanted o (yielded ops.toArray a.tmps) = true) : StepOkG P ops Q a0 φ W i o :=
  stepG_guard (fun s l a w hl hd hW hF _ => h s l a w hl hd hW hF) (fun s l a w hl hd hW hF hn => by rw [hw s l a w hd hF] at hn; cases hn)
theorem stepG_no (h : ∀ (s : σ) (l : Nat → Bool) (a : Act) (w : World), l i = false → W s l w → W s (upd l i) w ∧ φ s i undef w) (hw : ∀ (s : σ) (l : Nat → Bool) (a : Act) (w : World), (∀ e ∈ o.after.toList, Region.binds .any e = true → l e.on = true) → FrOk ops a0 (φ s) l a w → Region.wanted o (yielded ops.toArray a.tmps) = false) : StepOkG P ops Q a0 φ W i o :=
  stepG_guard (fun s l a w hl hd hW hF hn => by rw [hw s l a w hd hF] at hn; cases hn) (fun s l a w hl hd hW hF _ => h s l a w hl hW)
end
end Go.Proofs.Ytalcinepeofmcaa
namespace Go.Proofs.Ytalcinepeofmcaa
open Go
def loopsOf : Code → List Code
  | .loop c => c :: loopsOf c
  | .seq a b => loopsOf a ++ loopsOf b
  | .block _ c => loopsOf c
  | .scope c => loopsOf c
  | .cond _ a b => loopsOf a ++ loopsOf b
  | _ => []
noncomputable def loopBody (f : Func) (i : Nat) : Code := ((loopsOf (f.body.getD .skip))[i]?).getD .skip
end Go.Proofs.Ytalcinepeofmcaa
namespace Go.Proofs.Ytalcinepeofmcaa
open Go Go.RowKit
section
variable {w : World} {e : TypeId} {A B : Option Addr} {n c m d : Nat} {xs ys : List Value} {fp : List Nat} {P : Program}
theorem setCells_heap (g : Nat) {t : TypeId} : ∀ (ys : List Value) (o : Nat) (w : World) (cur : Array Value), w.heap[g]? = some (.cells cur t (0, 0)) →
    ∃ cur', (w.setCells g o ys).heap[g]? = some (.cells cur' t (0, 0)) ∧ cur'.size = cur.size ∧ (∀ j u, ys[j]? = some u → o + j < cur.size → cur'[o + j]? = some u) ∧ (∀ i, i < o → cur'[i]? = cur[i]?)
  | [], o, w, cur, h => ⟨cur, h, rfl, by simp, fun _ _ => rfl⟩
  | y :: ys, o, w, cur, h => by
    obtain ⟨cur', h1, h2, h3, h4⟩ := setCells_heap g ys (o + 1) (w.setCell ⟨g, o, none⟩ y) (cur.setIfInBounds o y) (hS_ h o y);refine ⟨cur', h1, by simpa using h2, fun j u hu hlt => ?_, fun i hi => ?_⟩
    · cases j with
      | zero =>
        simp only [List.getElem?_cons_zero, Option.some.injEq] at hu;subst hu;rw [Nat.add_zero, h4 o (by omega)];simp at hlt;simp [hlt]
      | succ j =>
        have := h3 j u (by simpa using hu) (by simp; omega)
        rwa [show o + 1 + j = o + (j + 1) from by omega] at this
    · rw [h4 i (by omega), Array.getElem?_setIfInBounds_ne (by omega)]
theorem setCells_keep {S : List Nat} (g : Nat) : ∀ (ys : List Value) (o : Nat) (w0 w : World), Keep S w0 w → (g ∈ S ∨ w0.heap.size ≤ g) → Keep S w0 (w.setCells g o ys)
  | [], _, _, _, h, _ => h
  | y :: ys, o, w0, _, h, hg => setCells_keep g ys (o + 1) w0 _ (h.setCell (p := ⟨g, o, none⟩) hg y) hg
def noughts (n : Nat) : Array Value := (List.replicate n (Value.int .i64 0)).toArray
theorem run_make_ints (t : TypeId) (i : TypeInfo) (ht : P.underlying t = some (.slice e)) (hi : P.info? e = some i) (hz : i.zero = some (.int .i64 0)) (hsize : i.size = 1) (hby : i.bytes = 8) (n : Nat) (hn : n ≤ 1000000) (w : World) :
    (Instr.makeSlice t (.int .i64 (n : Int)) (.int .i64 (n : Int))).run P w = .ok (.slice (some ⟨w.heap.size, 0, none⟩) n n) (w.alloc (.cells (noughts n) e)) := by
  have hr := run_make (P := P) w t e i (.int .i64 0) ht hi hz .i64 .i64 n n (by omega) (Int.le_refl _) (by rw [hby]; omega) (by omega);simp only [Int.toNat_natCast, hsize, Nat.mul_one] at hr;rw [hr]
  congr 3
  apply Array.ext';rw [show (Value.int IntKind.i64 0).cells = #[Value.int .i64 0] from rfl, toList_madeCells_one];simp [noughts]
end
end Go.Proofs.Ytalcinepeofmcaa
namespace Go.Proofs.Ytalcinepeofmcaa
open Go Go.RowKit Go.WideMaps Sp Pt
theorem arrK : ArrKey Try.prog 137 3 2 := ⟨Try.underlying137, by kernel_rfl, by kernel_rfl, by kernel_rfl⟩
theorem lawK : KeyLaw Try.prog 137 := arrK.law
theorem zeroI (w : World) : (zeroValue 3).run Try.prog w = .ok (.int .i64 0) w := by kernel_rfl
theorem sizeK : ∃ m, Try.prog.types.size = m + 1 := by
  have h : 0 < Try.prog.types.size := of_decide_eq_true (by kernel_rfl);exact ⟨Try.prog.types.size - 1, by omega⟩
abbrev kyV (h n : Int) : Value := .agg #[.int .i64 h, .int .i64 n]
theorem wf_far {x : Int} (h : -1000000 ≤ x ∧ x ≤ 1000000) : (Lit.int .i64 x).wf = true := by simp [Lit.wf, IntKind.min, IntKind.max, IntKind.signed, IntKind.bits]; omega
theorem ky_key {h n : Int} (hh : -1000000 ≤ h ∧ h ≤ 1000000) (hn : -1000000 ≤ n ∧ n ≤ 1000000) : ∃ l, keyOf Try.prog 137 (kyV h n) = some l :=
  ⟨_, keyOf_pair arrK Try.underlying3 sizeK (wf_far (by omega)) (wf_far (by omega))⟩
open Classical in
noncomputable def cntV (l : List (Int × Int)) (v : Value) : Int := ((l.countP fun p => decide (kyV p.1 p.2 = v) : Nat) : Int)
theorem cntV_ky (l : List (Int × Int)) (h n : Int) : cntV l (kyV h n) = (l.count (h, n) : Nat) := by
  unfold cntV List.count
  congr 1
  refine List.countP_congr fun p _ => ?_;obtain ⟨a, b⟩ := p;simp
theorem cntV_cons {l : List (Int × Int)} {h n : Int} {v : Value} (hv : v ≠ kyV h n) : cntV ((h, n) :: l) v = cntV l v := by
  unfold cntV;rw [List.countP_cons, if_neg (by simpa using fun e => hv e.symm)]; rfl
theorem cntV_nil (v : Value) : cntV [] v = 0 := rfl
structure PlSt (W w : World) (mb tb wb H : Nat) (t : Tly) : Prop where
  kp : Keep [mb, tb, wb] W w
  tg : w.heap[tb]? = some (.cells (ints t.tugs).toArray 3 (0, 0))
  tl : t.tugs.length = H
  wg : w.heap[wb]? = some (.cells (bools t.twice).toArray 4 (0, 0))
  wl : t.twice.length = H
  mp : MapI Try.prog 137 w mb t.hits.length (cntV t.hits)
def PeV (W0 : World) (mb xb N : Nat) (f : Value → Int) (g : Value → Int) (h n c : Int) (s : Nat) : Nat → Value → Prop
  | 0, v => v = .map (some mb)
  | 1, v => v = .pointer (some ⟨xb, 0, none⟩)
  | 2, v => v = .int .i64 h
  | 3, v => v = .int .i64 n
  | 4, v => v = kyV h n
  | 5, v => v = .int .i64 c
  | 6, v => v = .int .i64 (c + 1)
  | 7, v => v = .tuple #[.int .i64 c, goInt (s : Int)]
  | 8, v => v = goInt (s : Int)
  | _, _ => True
def PeW (W0 : World) (mb xb N : Nat) (f : Value → Int) (g : Value → Int) (h n c : Int) (s : Nat) (l : Nat → Bool) (w : World) : Prop := Keep [mb] W0 w ∧ (if l 9 then MapI Try.prog 137 w mb (N + 1) g else if l 7 then MapIAt Try.prog 137 w mb (N + 1) f (kyV h n) s else MapI Try.prog 137 w mb N f)
def PttV (W0 : World) (mb wb xb k H : Nat) (n c : Int) (tw z : Bool) : Nat → Value → Prop
  | 0, v => v = .slice (some ⟨wb, 0, none⟩) H H
  | 1, v => v = .pointer (some ⟨xb, 0, none⟩)
  | 2, v => v = .int .i64 k
  | 3, v => v = .slice (some ⟨wb, 0, none⟩) H H
  | 4, v => v = .pointer (some ⟨xb, 0, none⟩)
  | 5, v => v = .int .i64 k
  | 6, v => v = .pointer (some ⟨wb, k, none⟩)
  | 7, v => v = .bool tw
  | 8, v => v = .bool tw
  | 16, v => v = .bool (tw || z)
  | 17, v => v = .pointer (some ⟨wb, k, none⟩)
  | _, _ => True
def PttW (W0 : World) (mb wb xb k H : Nat) (n c : Int) (tw z : Bool) (l : Nat → Bool) (w : World) : Prop := if l 18 then w = (W0.setCell ⟨wb, k, none⟩ (.bool (tw || z))).drew else w = W0.drew
def PtfV (W0 : World) (mb wb xb k H : Nat) (n c : Int) (tw z : Bool) : Nat → Value → Prop
  | 0, v => v = .slice (some ⟨wb, 0, none⟩) H H
  | 1, v => v = .pointer (some ⟨xb, 0, none⟩)
  | 2, v => v = .int .i64 k
  | 3, v => v = .slice (some ⟨wb, 0, none⟩) H H
  | 4, v => v = .pointer (some ⟨xb, 0, none⟩)
  | 5, v => v = .int .i64 k
  | 6, v => v = .pointer (some ⟨wb, k, none⟩)
  | 7, v => v = .bool tw
  | 8, v => v = .bool tw
  | 9, v => v = .map (some mb)
  | 10, v => v = .pointer (some ⟨xb, 0, none⟩)
  | 11, v => v = .int .i64 k
  | 12, v => v = .int .i64 n
  | 13, v => v = kyV k n
  | 14, v => v = .int .i64 (c + 1)
  | 15, v => v = .bool z
  | 16, v => v = .bool (tw || z)
  | 17, v => v = .pointer (some ⟨wb, k, none⟩)
  | _, _ => True
def PtfW (W0 : World) (mb wb xb k H : Nat) (n c : Int) (tw z : Bool) (l : Nat → Bool) (w : World) : Prop := if l 18 then w = (W0.setCell ⟨wb, k, none⟩ (.bool (tw || z))).drew else w = W0.drew
theorem plIn {W0 wr : World} {mb tb wb xb pb po H L ck j : Nat} {t : Tly} {h n : Int} (S : PlSt W0 wr mb tb wb H t) (hx : W0.cell? ⟨xb, 0, none⟩ = some (.int .i64 h)) (hxn : xb ∉ [mb, tb, wb]) (hp : W0.cell? ⟨pb, po + j, none⟩ = some (.int .i64 n)) (hpn : pb ∉ [mb, tb, wb]) (hh : 0 ≤ h ∧ h < H) (hH : H ≤ 1000) (hN : t.hits.length ≤ 100000) (hj : j < L) (hL : L ≤ 1000) (hn : -1000 ≤ n ∧ n ≤ 1000) (hne : mb ≠ tb ∧ mb ≠ wb ∧ tb ≠ wb) {s0 s1 s2 s3 s4 s5 s6 s7 s8 s9 s10 s11 s13 s15 s17 s18 s19 s20 s21 s22 s23 s24 s25 s26 s27 s28 s29 s30 s31 s32 s33 s34 s35 s36 s37 s38 s39 s40 s41 s42 s43 s44 s45 s46 s47 s48 s49 s50 s51 s52 s53 s54 s55 s56 s57 s58 s59 s60 s61 s62 s63 s64 s65 s66 s67 s68 s69 s70 s71 s72 s73 s74 s75 s76 s77 s78 s79 s80 s81 s82 s83 s84 s85 s86 s87 s88 s89 s90 s91 s92 s93 s94 s95 s96 s97 s98 s99 s100 s101 s102 s103 s104 s105 s106 s107 s108 s109 s110 s111 s112 s113 s114 s115 s116 s117 s118 s119 s120 s124 s125 s126 s127 s128 s129 s130 s131 s132 s133 s134 s135 s136 s137 s138 s139 s140 s141 s142 s143 s144 s145 s146 s147 s148 s149 s150 s151 s152 s153 s154 s155 s156 s157 s158 s159 s160 s161 s162 s163 s164 s165 s166 s167 s168 s169 s170 s171 s172 s173 s174 s175 s176 s177 s178 s179 s180 s181 s182 s183 s184 s185 s186 s187 s188 s189 s190 : Value} {Q0 : Exit → Act → World → Prop} {Inv : Act → World → Prop}
    (hInv : ∀ (t18 t124 t125 t126 t127 t128 t129 t130 t131 t132 t133 t134 t135 t136 t137 t138 t139 t140 t141 t142 t143 t144 t145 t146 t147 t148 t149 t150 t151 t152 t153 t154 : Value)  (w' : World), PlSt W0 w' mb tb wb H (hit1 h t n) → Inv ⟨#[s0, s1, s2, s3, s4, s5, s6, s7, s8, s9, s10, s11, .map (some mb), s13, .slice (some ⟨wb, 0, none⟩) H H, s15, .pointer (some ⟨xb, 0, none⟩), s17, t18, s19, s20, s21, s22, s23, s24, s25, s26, s27, s28, s29, s30, s31, s32, s33, s34, s35, s36, s37, s38, s39, s40, s41, s42, s43, s44, s45, s46, s47, s48, s49, s50, s51, s52, s53, s54, s55, s56, s57, s58, s59, s60, s61, s62, s63, s64, s65, s66, s67, s68, s69, s70, s71, s72, s73, s74, s75, s76, s77, s78, s79, s80, s81, s82, s83, s84, s85, s86, s87, s88, s89, s90, s91, s92, s93, s94, s95, s96, s97, s98, s99, s100, s101, s102, s103, s104, s105, s106, s107, s108, s109, s110, s111, s112, s113, s114, s115, s116, s117, s118, s119, s120, .slice (some ⟨pb, po, none⟩) L ck, .int .i64 L, .int .i64 ((j + 1 : Nat) : Int), t124, t125, t126, t127, t128, t129, t130, t131, t132, t133, t134, t135, t136, t137, t138, t139, t140, t141, t142, t143, t144, t145, t146, t147, t148, t149, t150, t151, t152, t153, t154, s155, s156, s157, s158, s159, s160, s161, s162, s163, s164, s165, s166, s167, s168, s169, s170, s171, s172, s173, s174, s175, s176, s177, s178, s179, s180, s181, s182, s183, s184, s185, s186, s187, s188, s189, s190], []⟩ w') :
    Code.wp Try.prog (loopBody Try.f38 3) (Exit.then Inv Q0) ⟨#[s0, s1, s2, s3, s4, s5, s6, s7, s8, s9, s10, s11, .map (some mb), s13, .slice (some ⟨wb, 0, none⟩) H H, s15, .pointer (some ⟨xb, 0, none⟩), s17, s18, s19, s20, s21, s22, s23, s24, s25, s26, s27, s28, s29, s30, s31, s32, s33, s34, s35, s36, s37, s38, s39, s40, s41, s42, s43, s44, s45, s46, s47, s48, s49, s50, s51, s52, s53, s54, s55, s56, s57, s58, s59, s60, s61, s62, s63, s64, s65, s66, s67, s68, s69, s70, s71, s72, s73, s74, s75, s76, s77, s78, s79, s80, s81, s82, s83, s84, s85, s86, s87, s88, s89, s90, s91, s92, s93, s94, s95, s96, s97, s98, s99, s100, s101, s102, s103, s104, s105, s106, s107, s108, s109, s110, s111, s112, s113, s114, s115, s116, s117, s118, s119, s120, .slice (some ⟨pb, po, none⟩) L ck, .int .i64 L, .int .i64 j, s124, s125, s126, s127, s128, s129, s130, s131, s132, s133, s134, s135, s136, s137, s138, s139, s140, s141, s142, s143, s144, s145, s146, s147, s148, s149, s150, s151, s152, s153, s154, s155, s156, s157, s158, s159, s160, s161, s162, s163, s164, s165, s166, s167, s168, s169, s170, s171, s172, s173, s174, s175, s176, s177, s178, s179, s180, s181, s182, s183, s184, s185, s186, s187, s188, s189, s190], []⟩ wr := by
  conv => arg 2; whnf
  obtain ⟨hn1, hn2, hn3⟩ := hne;obtain ⟨k, rfl⟩ := Int.eq_ofNat_of_zero_le hh.1;have hk : k < H := by omega
  obtain ⟨c, hc⟩ : ∃ c : Int, c = cntV t.hits (kyV k n) := ⟨_, rfl⟩;have hcr : 0 ≤ c ∧ c ≤ 100000 := by rw [hc, cntV_ky]; have := List.count_le_length (l := t.hits) (a := ((k : Int), n)); omega
  have d0 := S.kp.cell hx hxn;have d1 := S.kp.cell hp hpn;have zx := World.block_lt_of_cell? _ _ d0;have zp := World.block_lt_of_cell? _ _ d1;have ekey := ky_key (h := k) (n := n) (by omega) (by omega);have HI := Lib.hid hInv;have HS := Lib.hid S;have HK := Lib.hid (And.intro ekey hc.symm);have HG := Lib.hid (And.intro (show cntV (((k : Int), n) :: t.hits) (kyV k n) = c + 1 by rw [cntV_ky, hc, cntV_ky, List.count_cons_self]; omega) (fun v hv => cntV_cons (l := t.hits) (h := k) (n := n) (v := v) hv));have HM := Lib.hid S.mp;have HXn := Lib.hid (And.intro hxn hpn);clear hInv S hx hp hc ekey hxn hpn;go_upto_region 34 with fail
  obtain ⟨W1, hW1⟩ : ∃ W1, W1 = wr := ⟨_, rfl⟩;obtain rfl : wr = W1 := hW1.symm;have HX := Lib.hid (And.intro d0 (show xb ∉ [mb] by have := HXn.out.1; simp at this ⊢; exact this.1));clear hW1;refine wRS (σ := Nat) (by kernel_rfl) (by kernel_rfl) (fun sg jx vx _ => PeV wr mb xb t.hits.length (cntV t.hits) (cntV (((k : Int), n) :: t.hits)) k n c sg jx vx) (fun sg ly wx => PeW wr mb xb t.hits.length (cntV t.hits) (cntV (((k : Int), n) :: t.hits)) k n c sg ly wx) 0 ?_ ?_ ?_
  · exact ⟨(Keep.refl _ _).drew, by rw [if_neg (by simp), if_neg (by simp)]; exact HM.out.of_heap rfl⟩
  · simp only [AllFrom, Nat.zero_add, Nat.reduceAdd];refine ⟨?_, ?_, ?_, ?_, ?_, ?_, ?_, ?_, ?_, ?_, trivial⟩
    · refine sP_ fun sg ly a wr hl hd hW hF => ?_;have et12 := hF.old 12 (by kernel_rfl);simp [Act.eval] at et12;exact ⟨by simpa [PeW, upd] using hW, .map (some mb), by go_simp, rfl⟩
    · refine sP_ fun sg ly a wr hl hd hW hF => ?_;have et16 := hF.old 16 (by kernel_rfl);simp [Act.eval] at et16;exact ⟨by simpa [PeW, upd] using hW, .pointer (some ⟨xb, 0, none⟩), by go_simp, rfl⟩
    · refine sP_ fun sg ly a wr hl hd hW hF => ?_;simp [Region.binds] at hd;have et128 := hF.new 1 128 (by simp [hd]) rfl;simp [PeV, Act.eval] at et128;have c0 := hW.1.cell HX.out.1 HX.out.2;exact ⟨by simpa [PeW, upd] using hW, _, by go_simp, rfl⟩
    · refine sP_ fun sg ly a wr hl hd hW hF => ?_;have et18 := hF.old 18 (by kernel_rfl);simp [Act.eval] at et18;exact ⟨by simpa [PeW, upd] using hW, .int .i64 n, by go_simp, rfl⟩
    · refine sP_ fun sg ly a wr hl hd hW hF => ?_;simp [Region.binds] at hd;have et129 := hF.new 2 129 (by simp [hd]) rfl;simp [PeV, Act.eval] at et129;have et130 := hF.new 3 130 (by simp [hd]) rfl;simp [PeV, Act.eval] at et130;exact ⟨by simpa [PeW, upd] using hW, kyV k n, by go_simp, rfl⟩
    · refine sP_ fun sg ly a wr hl hd hW hF => ?_;simp [Region.binds] at hd;have et127 := hF.new 0 127 (by simp [hd]) rfl;simp [PeV, Act.eval] at et127;have et131 := hF.new 4 131 (by simp [hd]) rfl;simp [PeV, Act.eval] at et131;have n9_6 := hF.notYet 5 6 hl (by kernel_rfl);have n9 := hF.notYet 6 9 n9_6 (by kernel_rfl);have hlk : (Instr.lookup 136 (.map (some mb)) (kyV k n) false).run Try.prog wr = .ok (.int .i64 c) wr := by
        have h2 := hW.2;rw [if_neg (by simp [n9])] at h2;obtain ⟨kl, hkl⟩ := HK.out.1;have := MapI.look lawK Try.underlying136 zeroI (mb := mb) (w := wr) (n := t.hits.length + 1) (f := cntV t.hits) (by split at h2; exact h2.mapI; exact h2.mono (by omega)) hkl;rw [this, HK.out.2]
      exact ⟨by simpa [PeW, upd] using hW, _, by go_simp, rfl⟩
    · refine sP_ fun sg ly a wr hl hd hW hF => ?_;simp [Region.binds] at hd;have et132 := hF.new 5 132 (by simp [hd]) rfl;simp [PeV, Act.eval] at et132;have ew := IntWalk.i64_in (c + 1) (by omega);exact ⟨by simpa [PeW, upd] using hW, .int .i64 (c + 1), by go_simp, rfl⟩
    · refine sR_ fun sg ly a wr hl hd hW hF => ?_;simp [Region.binds] at hd;have et127 := hF.new 0 127 (by simp [hd]) rfl;simp [PeV, Act.eval] at et127;have et131 := hF.new 4 131 (by simp [hd]) rfl;simp [PeV, Act.eval] at et131;have n9_8 := hF.notYet 7 8 hl (by kernel_rfl);have n9 := hF.notYet 8 9 n9_8 (by kernel_rfl);have h2 := hW.2;rw [if_neg (by simp [n9]), if_neg (by simp [hl])] at h2;obtain ⟨kl, hkl⟩ := HK.out.1;obtain ⟨st, w2, hr, hm, hkp, hsz⟩ := MapI.entry lawK Try.underlying136 zeroI h2 hkl;rw [HK.out.2] at hr;have n8 := hF.notYet 7 8 hl (by kernel_rfl);refine ⟨_, w2, st, by go_simp, ⟨hW.1.trans hkp (by simp), by simp [upd, n9]; exact hm⟩, rfl, ?_⟩;intro i u hi h;have i2 : i ≠ 7 := by rintro rfl; rw [hl] at hi; cases hi
      have i3 : i ≠ 8 := by rintro rfl; rw [n8] at hi; cases hi
      unfold PeV at h ⊢;split at h <;> first | exact h | exact absurd rfl i2 | exact absurd rfl i3
    · refine sP_ fun sg ly a wr hl hd hW hF => ?_;simp [Region.binds] at hd;have et134 := hF.new 7 134 (by simp [hd]) rfl;simp [PeV, Act.eval] at et134;exact ⟨by simpa [PeW, upd] using hW, goInt (sg : Int), by go_simp, rfl⟩
    · refine sS_ rfl fun sg ly a wr hl hd hW hF => ?_;simp [Region.binds] at hd;have et127 := hF.new 0 127 (by simp [hd]) rfl;simp [PeV, Act.eval] at et127;have et135 := hF.new 8 135 (by simp [hd]) rfl;simp [PeV, Act.eval] at et135;have et133 := hF.new 6 133 (by simp [hd]) rfl;simp [PeV, Act.eval] at et133;have y7 : ly 7 = true := by simp [hd]
      have h2 := hW.2;rw [if_neg (by simp [hl]), if_pos y7] at h2;obtain ⟨w2, hr, hm, hkp, hsz⟩ := MapIAt.store (P := Try.prog) (t := 136) h2 (c + 1) (cntV (((k : Int), n) :: t.hits)) HG.out.1 HG.out.2;have hr' : (Instr.entryStore 136 (.map (some mb)) (.int .i64 (sg : Int)) (.int .i64 (c + 1))).run Try.prog wr = .ok () w2 := hr;clear hr;exact ⟨w2, sg, .skip, by go_simp, .inl rfl, ⟨hW.1.trans hkp (by simp), by simp [upd]; exact hm⟩, fun _ _ _ h => h⟩
  intro sg a w2 hWW hF;obtain ⟨f2, hf2, rfl⟩ := hF.lit;obtain ⟨kp2, hm2⟩ := hWW;simp only [List.length_cons, List.length_nil, Nat.reduceAdd, Nat.reduceLT, decide_true, if_true] at hm2;have e0 := kp2.cell d0 (by have := HXn.out.1; simp at this ⊢; exact this.1);have gw := (kp2.block wb (hL_ HS.out.wg) (by simp; omega)).trans HS.out.wg;have gt := (kp2.block tb (hL_ HS.out.tg) (by simp; omega)).trans HS.out.tg;have zx2 := World.block_lt_of_cell? _ _ e0;have zw2 := hL_ gw;obtain ⟨tw, htw⟩ : ∃ tw, tw = t.twice.getD k false := ⟨_, rfl⟩;have e1 : w2.cell? ⟨wb, k, none⟩ = some (.bool tw) := by
    rw [cOH gw, List.getElem?_toArray, bools_get (by rw [HS.out.wl]; exact hk), htw]
  have q1 := fOH gw k;obtain ⟨kl, hkl⟩ := HK.out.1;have hlk : (Instr.lookup 136 (.map (some mb)) (kyV k n) false).run Try.prog w2.drew = .ok (.int .i64 (c + 1)) w2.drew := by
    rw [← HG.out.1];exact MapI.look (w := w2.drew) lawK Try.underlying136 zeroI (hm2.of_heap rfl) hkl
  have hcb : decide ((1 : Int) < c + 1) = decide (1 < t.hits.count ((k : Int), n) + 1) := by
    have := HK.out.2;rw [cntV_ky] at this;rw [← this];by_cases q : 0 < t.hits.count ((k : Int), n)
    · rw [decide_eq_true (by omega), decide_eq_true (by omega)]
    · rw [decide_eq_false (by omega), decide_eq_false (by omega)]
  obtain ⟨z, hz⟩ : ∃ z, z = decide ((1 : Int) < c + 1) := ⟨_, rfl⟩;have hzz : decide ((1 : Int) < c + 1) = z := hz.symm;have H2 := Lib.hid (And.intro kp2 (And.intro hm2 (And.intro gw (And.intro gt (And.intro htw (And.intro hcb hz))))));clear kp2 hm2 gw gt htw hkl hf2 hF HX HM HK HG d0 d1 zx zp hcb hz;simp only [List.filterMap, List.foldl, List.setIfInBounds_toArray, List.set_cons_succ, List.set_cons_zero];obtain ⟨x, hx⟩ : ∃ x, x = (tw || z) := ⟨_, rfl⟩;have fin : ∀ w', w' = (w2.setCell ⟨wb, k, none⟩ (.bool x)).drew → PlSt W0 w' mb tb wb H (hit1 k t n) := by
    rintro w' rfl;refine ⟨((HS.out.kp.trans H2.out.1 (by simp)).setCell (.inl (by simp)) _).drew, ?_, HS.out.tl, ?_, ?_, ?_⟩
    · exact (Below.heap_setCell _ _ _ tb (by simp; omega)).trans H2.out.2.2.2.1
    · have := hS_ (w := w2) H2.out.2.2.1 k (.bool x);show (w2.setCell ⟨wb, k, none⟩ (.bool x)).heap[wb]? = _;rw [this];simp only [hit1, Int.toNat_natCast, ← H2.out.2.2.2.2.1, ← H2.out.2.2.2.2.2.1, ← H2.out.2.2.2.2.2.2, ← hx]
      congr 2
      apply Array.ext';simp [bools, List.map_set]
    · simp [hit1, HS.out.wl]
    · exact H2.out.2.1.of_heap (Below.heap_setCell _ _ _ mb (by simp; omega))
  have HFIN := Lib.hid (And.intro hx fin);clear fin hx;have hzz2 : decide ((0 : Int) < c) = z := by rw [← hzz]; by_cases q : 0 < c; rw [decide_eq_true q, decide_eq_true (by omega)]; rw [decide_eq_false q, decide_eq_false (by omega)]
  go_upto_region 35 with fail
  have HE := Lib.hid (And.intro e0 (And.intro e1 (And.intro q1 (And.intro hlk (And.intro zx2 zw2)))));have hxw : xb ≠ wb := by have := HXn.out.1; simp at this; exact this.2.2
  clear e0 e1 q1 hlk zx2 zw2;cases tw
  · refine wp_region_stepsG (σ := Unit) (by kernel_rfl) (by kernel_rfl) (fun _ jx vx _ => PtfV w2 mb wb xb k H n c false z jx vx) (fun _ ly wx => PtfW w2 mb wb xb k H n c false z ly wx) () ?_ ?_ ?_
    · exact (by unfold PtfW; rw [if_neg (by simp)])
    · simp only [AllFrom, Nat.zero_add, Nat.reduceAdd];refine ⟨?_, ?_, ?_, ?_, ?_, ?_, ?_, ?_, ?_, ?_, ?_, ?_, ?_, ?_, ?_, ?_, ?_, ?_, ?_, trivial⟩
      · refine gP_ rfl ?_;refine sP_ fun sg ly a wr hl hd hW hF => ?_;have et14 := hF.old 14 (by kernel_rfl);simp [Act.eval] at et14;exact ⟨by simpa [PtfW, upd] using hW, .slice (some ⟨wb, 0, none⟩) H H, by go_simp, rfl⟩
      · refine gP_ rfl ?_;refine sP_ fun sg ly a wr hl hd hW hF => ?_;have et16 := hF.old 16 (by kernel_rfl);simp [Act.eval] at et16;exact ⟨by simpa [PtfW, upd] using hW, .pointer (some ⟨xb, 0, none⟩), by go_simp, rfl⟩
      · refine gP_ rfl ?_;refine sP_ fun sg ly a wr hl hd hW hF => ?_;simp [Region.binds] at hd;have et137 := hF.new 1 137 (by simp [hd]) rfl;simp [PtfV, Act.eval] at et137;have n18_17 := hF.notYet 2 17 hl (by kernel_rfl);have n18 := hF.notYet 17 18 n18_17 (by kernel_rfl);have hW' := hW;unfold PtfW at hW';rw [if_neg (by simp [n18])] at hW';subst hW';obtain ⟨e0, e1, q1, hlk, zx2, zw2⟩ := HE.out;exact ⟨by unfold PtfW; rw [if_neg (by simp [upd, n18])], _, by go_simp, rfl⟩
      · refine gP_ rfl ?_;refine sP_ fun sg ly a wr hl hd hW hF => ?_;have et14 := hF.old 14 (by kernel_rfl);simp [Act.eval] at et14;exact ⟨by simpa [PtfW, upd] using hW, .slice (some ⟨wb, 0, none⟩) H H, by go_simp, rfl⟩
      · refine gP_ rfl ?_;refine sP_ fun sg ly a wr hl hd hW hF => ?_;have et16 := hF.old 16 (by kernel_rfl);simp [Act.eval] at et16;exact ⟨by simpa [PtfW, upd] using hW, .pointer (some ⟨xb, 0, none⟩), by go_simp, rfl⟩
      · refine gP_ rfl ?_;refine sP_ fun sg ly a wr hl hd hW hF => ?_;simp [Region.binds] at hd;have et140 := hF.new 4 140 (by simp [hd]) rfl;simp [PtfV, Act.eval] at et140;have n18_6 := hF.notYet 5 6 hl (by kernel_rfl);have n18_7 := hF.notYet 6 7 n18_6 (by kernel_rfl);have n18_8 := hF.notYet 7 8 n18_7 (by kernel_rfl);have n18_16 := hF.notYet 8 16 n18_8 (by kernel_rfl);have n18 := hF.notYet 16 18 n18_16 (by kernel_rfl);have hW' := hW;unfold PtfW at hW';rw [if_neg (by simp [n18])] at hW';subst hW';obtain ⟨e0, e1, q1, hlk, zx2, zw2⟩ := HE.out;exact ⟨by unfold PtfW; rw [if_neg (by simp [upd, n18])], _, by go_simp, rfl⟩
      · refine gP_ rfl ?_;refine sP_ fun sg ly a wr hl hd hW hF => ?_;simp [Region.binds] at hd;have et139 := hF.new 3 139 (by simp [hd]) rfl;simp [PtfV, Act.eval] at et139;have et141 := hF.new 5 141 (by simp [hd]) rfl;simp [PtfV, Act.eval] at et141;exact ⟨by simpa [PtfW, upd] using hW, .pointer (some ⟨wb, k, none⟩), by go_simp, rfl⟩
      · refine gP_ rfl ?_;refine sP_ fun sg ly a wr hl hd hW hF => ?_;simp [Region.binds] at hd;have et142 := hF.new 6 142 (by simp [hd]) rfl;simp [PtfV, Act.eval] at et142;have n18_8 := hF.notYet 7 8 hl (by kernel_rfl);have n18_16 := hF.notYet 8 16 n18_8 (by kernel_rfl);have n18 := hF.notYet 16 18 n18_16 (by kernel_rfl);have hW' := hW;unfold PtfW at hW';rw [if_neg (by simp [n18])] at hW';subst hW';obtain ⟨e0, e1, q1, hlk, zx2, zw2⟩ := HE.out;exact ⟨by unfold PtfW; rw [if_neg (by simp [upd, n18])], _, by go_simp, rfl⟩
      · refine gP_ rfl ?_;refine sP_ fun sg ly a wr hl hd hW hF => ?_;simp [Region.binds] at hd;have et143 := hF.new 7 143 (by simp [hd]) rfl;simp [PtfV, Act.eval] at et143;exact ⟨by simpa [PtfW, upd] using hW, .bool false, by go_simp, rfl⟩
      · refine stepG_yes ?_ ?_;rotate_left
        · intro sg ly a wr hd hF;simp [Region.binds] at hd;exact wQ_ hF (g := 8) (d := 144) (z := false) (b := false) rfl rfl (by simp [hd]) (fun v hv => hv)
        refine sP_ fun sg ly a wr hl hd hW hF => ?_;have et12 := hF.old 12 (by kernel_rfl);simp [Act.eval] at et12;exact ⟨by simpa [PtfW, upd] using hW, .map (some mb), by go_simp, rfl⟩
      · refine stepG_yes ?_ ?_;rotate_left
        · intro sg ly a wr hd hF;simp [Region.binds] at hd;exact wQ_ hF (g := 8) (d := 144) (z := false) (b := false) rfl rfl (by simp [hd]) (fun v hv => hv)
        refine sP_ fun sg ly a wr hl hd hW hF => ?_;have et16 := hF.old 16 (by kernel_rfl);simp [Act.eval] at et16;exact ⟨by simpa [PtfW, upd] using hW, .pointer (some ⟨xb, 0, none⟩), by go_simp, rfl⟩
      · refine stepG_yes ?_ ?_;rotate_left
        · intro sg ly a wr hd hF;simp [Region.binds] at hd;exact wQ_ hF (g := 8) (d := 144) (z := false) (b := false) rfl rfl (by simp [hd]) (fun v hv => hv)
        refine sP_ fun sg ly a wr hl hd hW hF => ?_;simp [Region.binds] at hd;have et146 := hF.new 10 146 (by simp [hd]) rfl;simp [PtfV, Act.eval] at et146;have n18_13 := hF.notYet 11 13 hl (by kernel_rfl);have n18_14 := hF.notYet 13 14 n18_13 (by kernel_rfl);have n18_15 := hF.notYet 14 15 n18_14 (by kernel_rfl);have n18_16 := hF.notYet 15 16 n18_15 (by kernel_rfl);have n18 := hF.notYet 16 18 n18_16 (by kernel_rfl);have hW' := hW;unfold PtfW at hW';rw [if_neg (by simp [n18])] at hW';subst hW';obtain ⟨e0, e1, q1, hlk, zx2, zw2⟩ := HE.out;exact ⟨by unfold PtfW; rw [if_neg (by simp [upd, n18])], _, by go_simp, rfl⟩
      · refine stepG_yes ?_ ?_;rotate_left
        · intro sg ly a wr hd hF;simp [Region.binds] at hd;exact wQ_ hF (g := 8) (d := 144) (z := false) (b := false) rfl rfl (by simp [hd]) (fun v hv => hv)
        refine sP_ fun sg ly a wr hl hd hW hF => ?_;have et18 := hF.old 18 (by kernel_rfl);simp [Act.eval] at et18;exact ⟨by simpa [PtfW, upd] using hW, .int .i64 n, by go_simp, rfl⟩
      · refine stepG_yes ?_ ?_;rotate_left
        · intro sg ly a wr hd hF;simp [Region.binds] at hd;exact wQ_ hF (g := 8) (d := 144) (z := false) (b := false) rfl rfl (by simp [hd]) (fun v hv => hv)
        refine sP_ fun sg ly a wr hl hd hW hF => ?_;simp [Region.binds] at hd;have et147 := hF.new 11 147 (by simp [hd]) rfl;simp [PtfV, Act.eval] at et147;have et148 := hF.new 12 148 (by simp [hd]) rfl;simp [PtfV, Act.eval] at et148;exact ⟨by simpa [PtfW, upd] using hW, kyV k n, by go_simp, rfl⟩
      · refine stepG_yes ?_ ?_;rotate_left
        · intro sg ly a wr hd hF;simp [Region.binds] at hd;exact wQ_ hF (g := 8) (d := 144) (z := false) (b := false) rfl rfl (by simp [hd]) (fun v hv => hv)
        refine sP_ fun sg ly a wr hl hd hW hF => ?_;simp [Region.binds] at hd;have et145 := hF.new 9 145 (by simp [hd]) rfl;simp [PtfV, Act.eval] at et145;have et149 := hF.new 13 149 (by simp [hd]) rfl;simp [PtfV, Act.eval] at et149;have n18_15 := hF.notYet 14 15 hl (by kernel_rfl);have n18_16 := hF.notYet 15 16 n18_15 (by kernel_rfl);have n18 := hF.notYet 16 18 n18_16 (by kernel_rfl);have hW' := hW;unfold PtfW at hW';rw [if_neg (by simp [n18])] at hW';subst hW';obtain ⟨e0, e1, q1, hlk, zx2, zw2⟩ := HE.out;exact ⟨by unfold PtfW; rw [if_neg (by simp [upd, n18])], _, by go_simp, rfl⟩
      · refine stepG_yes ?_ ?_;rotate_left
        · intro sg ly a wr hd hF;simp [Region.binds] at hd;exact wQ_ hF (g := 8) (d := 144) (z := false) (b := false) rfl rfl (by simp [hd]) (fun v hv => hv)
        refine sP_ fun sg ly a wr hl hd hW hF => ?_;simp [Region.binds] at hd;have et150 := hF.new 14 150 (by simp [hd]) rfl;simp [PtfV, Act.eval] at et150;exact ⟨by simpa [PtfW, upd] using hW, .bool z, by go_simp, rfl⟩
      · refine gP_ rfl ?_;refine sP_ fun sg ly a wr hl hd hW hF => ?_;simp [Region.binds] at hd;have et144 := hF.new 8 144 (by simp [hd]) rfl;simp [PtfV, Act.eval] at et144;have et151 := hF.new 15 151 (by simp [hd]) rfl;simp [PtfV, Act.eval] at et151;exact ⟨by simpa [PtfW, upd] using hW, .bool (false || z), by go_simp, rfl⟩
      · refine gP_ rfl ?_;refine sP_ fun sg ly a wr hl hd hW hF => ?_;simp [Region.binds] at hd;have et136 := hF.new 0 136 (by simp [hd]) rfl;simp [PtfV, Act.eval] at et136;have et138 := hF.new 2 138 (by simp [hd]) rfl;simp [PtfV, Act.eval] at et138;exact ⟨by simpa [PtfW, upd] using hW, .pointer (some ⟨wb, k, none⟩), by go_simp, rfl⟩
      · refine gP_ rfl ?_;refine sS_ rfl fun sg ly a wr hl hd hW hF => ?_;simp [Region.binds] at hd;have et153 := hF.new 17 153 (by simp [hd]) rfl;simp [PtfV, Act.eval] at et153;have et152 := hF.new 16 152 (by simp [hd]) rfl;simp [PtfV, Act.eval] at et152;have hW' := hW;unfold PtfW at hW';rw [if_neg (by simp [hl])] at hW';subst hW';obtain ⟨e0, e1, q1, hlk, zx2, zw2⟩ := HE.out;refine ⟨(w2.setCell ⟨wb, k, none⟩ (.bool (false || z))).drew, (), .skip, by go_simp, .inl rfl, by unfold PtfW; rw [if_pos (by simp [upd])], fun _ _ _ h => h⟩
    intro sg a w5 hWW hF;obtain ⟨f5, hf5, rfl⟩ := hF.lit;have hw5 := HFIN.out.2 w5 (by rw [HFIN.out.1]; have h5 := hWW; unfold PtfW at h5; rw [if_pos (by simp)] at h5; exact h5);clear hf5 hF hWW;simp only [List.filterMap, List.foldl, List.setIfInBounds_toArray, List.set_cons_succ, List.set_cons_zero];have H5 := Lib.hid hw5;clear hw5;go_wp2_with fail
    exact HI.out _ _ _ _ _ _ _ _ _ _ _ _ _ _ _ _ _ _ _ _ _ _ _ _ _ _ _ _ _ _ _ _ _ H5.out
  · refine wp_region_stepsG (σ := Unit) (by kernel_rfl) (by kernel_rfl) (fun _ jx vx _ => PttV w2 mb wb xb k H n c true z jx vx) (fun _ ly wx => PttW w2 mb wb xb k H n c true z ly wx) () ?_ ?_ ?_
    · exact (by unfold PttW; rw [if_neg (by simp)])
    · simp only [AllFrom, Nat.zero_add, Nat.reduceAdd];refine ⟨?_, ?_, ?_, ?_, ?_, ?_, ?_, ?_, ?_, ?_, ?_, ?_, ?_, ?_, ?_, ?_, ?_, ?_, ?_, trivial⟩
      · refine gP_ rfl ?_;refine sP_ fun sg ly a wr hl hd hW hF => ?_;have et14 := hF.old 14 (by kernel_rfl);simp [Act.eval] at et14;exact ⟨by simpa [PttW, upd] using hW, .slice (some ⟨wb, 0, none⟩) H H, by go_simp, rfl⟩
      · refine gP_ rfl ?_;refine sP_ fun sg ly a wr hl hd hW hF => ?_;have et16 := hF.old 16 (by kernel_rfl);simp [Act.eval] at et16;exact ⟨by simpa [PttW, upd] using hW, .pointer (some ⟨xb, 0, none⟩), by go_simp, rfl⟩
      · refine gP_ rfl ?_;refine sP_ fun sg ly a wr hl hd hW hF => ?_;simp [Region.binds] at hd;have et137 := hF.new 1 137 (by simp [hd]) rfl;simp [PttV, Act.eval] at et137;have n18_17 := hF.notYet 2 17 hl (by kernel_rfl);have n18 := hF.notYet 17 18 n18_17 (by kernel_rfl);have hW' := hW;unfold PttW at hW';rw [if_neg (by simp [n18])] at hW';subst hW';obtain ⟨e0, e1, q1, hlk, zx2, zw2⟩ := HE.out;exact ⟨by unfold PttW; rw [if_neg (by simp [upd, n18])], _, by go_simp, rfl⟩
      · refine gP_ rfl ?_;refine sP_ fun sg ly a wr hl hd hW hF => ?_;have et14 := hF.old 14 (by kernel_rfl);simp [Act.eval] at et14;exact ⟨by simpa [PttW, upd] using hW, .slice (some ⟨wb, 0, none⟩) H H, by go_simp, rfl⟩
      · refine gP_ rfl ?_;refine sP_ fun sg ly a wr hl hd hW hF => ?_;have et16 := hF.old 16 (by kernel_rfl);simp [Act.eval] at et16;exact ⟨by simpa [PttW, upd] using hW, .pointer (some ⟨xb, 0, none⟩), by go_simp, rfl⟩
      · refine gP_ rfl ?_;refine sP_ fun sg ly a wr hl hd hW hF => ?_;simp [Region.binds] at hd;have et140 := hF.new 4 140 (by simp [hd]) rfl;simp [PttV, Act.eval] at et140;have n18_6 := hF.notYet 5 6 hl (by kernel_rfl);have n18_7 := hF.notYet 6 7 n18_6 (by kernel_rfl);have n18_8 := hF.notYet 7 8 n18_7 (by kernel_rfl);have n18_16 := hF.notYet 8 16 n18_8 (by kernel_rfl);have n18 := hF.notYet 16 18 n18_16 (by kernel_rfl);have hW' := hW;unfold PttW at hW';rw [if_neg (by simp [n18])] at hW';subst hW';obtain ⟨e0, e1, q1, hlk, zx2, zw2⟩ := HE.out;exact ⟨by unfold PttW; rw [if_neg (by simp [upd, n18])], _, by go_simp, rfl⟩
      · refine gP_ rfl ?_;refine sP_ fun sg ly a wr hl hd hW hF => ?_;simp [Region.binds] at hd;have et139 := hF.new 3 139 (by simp [hd]) rfl;simp [PttV, Act.eval] at et139;have et141 := hF.new 5 141 (by simp [hd]) rfl;simp [PttV, Act.eval] at et141;exact ⟨by simpa [PttW, upd] using hW, .pointer (some ⟨wb, k, none⟩), by go_simp, rfl⟩
      · refine gP_ rfl ?_;refine sP_ fun sg ly a wr hl hd hW hF => ?_;simp [Region.binds] at hd;have et142 := hF.new 6 142 (by simp [hd]) rfl;simp [PttV, Act.eval] at et142;have n18_8 := hF.notYet 7 8 hl (by kernel_rfl);have n18_16 := hF.notYet 8 16 n18_8 (by kernel_rfl);have n18 := hF.notYet 16 18 n18_16 (by kernel_rfl);have hW' := hW;unfold PttW at hW';rw [if_neg (by simp [n18])] at hW';subst hW';obtain ⟨e0, e1, q1, hlk, zx2, zw2⟩ := HE.out;exact ⟨by unfold PttW; rw [if_neg (by simp [upd, n18])], _, by go_simp, rfl⟩
      · refine gP_ rfl ?_;refine sP_ fun sg ly a wr hl hd hW hF => ?_;simp [Region.binds] at hd;have et143 := hF.new 7 143 (by simp [hd]) rfl;simp [PttV, Act.eval] at et143;exact ⟨by simpa [PttW, upd] using hW, .bool true, by go_simp, rfl⟩
      · refine stepG_no ?_ ?_;rotate_left
        · intro sg ly a wr hd hF;simp [Region.binds] at hd;exact wQ_ hF (g := 8) (d := 144) (z := true) (b := false) rfl rfl (by simp [hd]) (fun v hv => hv)
        exact fun sg ly a wr hl hW => ⟨by simpa [PttW, upd] using hW, trivial⟩
      · refine stepG_no ?_ ?_;rotate_left
        · intro sg ly a wr hd hF;simp [Region.binds] at hd;exact wQ_ hF (g := 8) (d := 144) (z := true) (b := false) rfl rfl (by simp [hd]) (fun v hv => hv)
        exact fun sg ly a wr hl hW => ⟨by simpa [PttW, upd] using hW, trivial⟩
      · refine stepG_no ?_ ?_;rotate_left
        · intro sg ly a wr hd hF;simp [Region.binds] at hd;exact wQ_ hF (g := 8) (d := 144) (z := true) (b := false) rfl rfl (by simp [hd]) (fun v hv => hv)
        exact fun sg ly a wr hl hW => ⟨by simpa [PttW, upd] using hW, trivial⟩
      · refine stepG_no ?_ ?_;rotate_left
        · intro sg ly a wr hd hF;simp [Region.binds] at hd;exact wQ_ hF (g := 8) (d := 144) (z := true) (b := false) rfl rfl (by simp [hd]) (fun v hv => hv)
        exact fun sg ly a wr hl hW => ⟨by simpa [PttW, upd] using hW, trivial⟩
      · refine stepG_no ?_ ?_;rotate_left
        · intro sg ly a wr hd hF;simp [Region.binds] at hd;exact wQ_ hF (g := 8) (d := 144) (z := true) (b := false) rfl rfl (by simp [hd]) (fun v hv => hv)
        exact fun sg ly a wr hl hW => ⟨by simpa [PttW, upd] using hW, trivial⟩
      · refine stepG_no ?_ ?_;rotate_left
        · intro sg ly a wr hd hF;simp [Region.binds] at hd;exact wQ_ hF (g := 8) (d := 144) (z := true) (b := false) rfl rfl (by simp [hd]) (fun v hv => hv)
        exact fun sg ly a wr hl hW => ⟨by simpa [PttW, upd] using hW, trivial⟩
      · refine stepG_no ?_ ?_;rotate_left
        · intro sg ly a wr hd hF;simp [Region.binds] at hd;exact wQ_ hF (g := 8) (d := 144) (z := true) (b := false) rfl rfl (by simp [hd]) (fun v hv => hv)
        exact fun sg ly a wr hl hW => ⟨by simpa [PttW, upd] using hW, trivial⟩
      · refine gP_ rfl ?_;refine sP_ fun sg ly a wr hl hd hW hF => ?_;have et144 := hF.new 8 144 (by simp [Region.binds] at hd; simp [hd]) rfl;simp [PttV, Act.eval] at et144;exact ⟨by simpa [PttW, upd] using hW, .bool (true || z), by go_simp, rfl⟩
      · refine gP_ rfl ?_;refine sP_ fun sg ly a wr hl hd hW hF => ?_;simp [Region.binds] at hd;have et136 := hF.new 0 136 (by simp [hd]) rfl;simp [PttV, Act.eval] at et136;have et138 := hF.new 2 138 (by simp [hd]) rfl;simp [PttV, Act.eval] at et138;exact ⟨by simpa [PttW, upd] using hW, .pointer (some ⟨wb, k, none⟩), by go_simp, rfl⟩
      · refine gP_ rfl ?_;refine sS_ rfl fun sg ly a wr hl hd hW hF => ?_;simp [Region.binds] at hd;have et153 := hF.new 17 153 (by simp [hd]) rfl;simp [PttV, Act.eval] at et153;have et152 := hF.new 16 152 (by simp [hd]) rfl;simp [PttV, Act.eval] at et152;have hW' := hW;unfold PttW at hW';rw [if_neg (by simp [hl])] at hW';subst hW';obtain ⟨e0, e1, q1, hlk, zx2, zw2⟩ := HE.out;refine ⟨(w2.setCell ⟨wb, k, none⟩ (.bool (true || z))).drew, (), .skip, by go_simp, .inl rfl, by unfold PttW; rw [if_pos (by simp [upd])], fun _ _ _ h => h⟩
    intro sg a w5 hWW hF;obtain ⟨f5, hf5, rfl⟩ := hF.lit;have hw5 := HFIN.out.2 w5 (by rw [HFIN.out.1]; have h5 := hWW; unfold PttW at h5; rw [if_pos (by simp)] at h5; exact h5);clear hf5 hF hWW;simp only [List.filterMap, List.foldl, List.setIfInBounds_toArray, List.set_cons_succ, List.set_cons_zero];have H5 := Lib.hid hw5;clear hw5;go_wp2_with fail
    exact HI.out _ _ _ _ _ _ _ _ _ _ _ _ _ _ _ _ _ _ _ _ _ _ _ _ _ _ _ _ _ _ _ _ _ H5.out
end Go.Proofs.Ytalcinepeofmcaa
