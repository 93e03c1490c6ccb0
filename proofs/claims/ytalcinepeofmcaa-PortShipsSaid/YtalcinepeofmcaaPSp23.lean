import Derived.Test.YtalcinepeofmcaaPSp22
import Derived.Test.YtalcinepeofmcaaPSp20
import Derived.Test.YtalcinepeofmcaaPSp9
import Derived.Test.YtalcinepeofmcaaPSp18
import Derived.Test.YtalcinepeofmcaaPSp3
import Derived.Test.YtalcinepeofmcaaPSp2
import Derived.Test.YtalcinepeofmcaaPSp7
set_option linter.unusedVariables false
set_option linter.unusedSimpArgs false
set_option maxRecDepth 100000
set_option maxHeartbeats 40000000
namespace Go.Proofs.Ytalcinepeofmcaa
open Go Go.RowKit Go.Shelf Go.Proofs Sp Hu
attribute [local go_sem] Oper.semAt_some
structure KpH (free : Nat → Obj → Prop) (W W' : World) : Prop where
  size : W.heap.size ≤ W'.heap.size
  same : ∀ (k : Nat) (o : Obj), W.heap[k]? = some o → o.isCells = true → ¬ free k o → W'.heap[k]? = some o
theorem KpH.trans {free : Nat → Obj → Prop} {A B C : World} (h : KpH free A B) (h' : KpH free B C) : KpH free A C :=
  ⟨Nat.le_trans h.size h'.size, fun k o hk hc hf => h'.same k o (h.same k o hk hc hf) hc hf⟩
theorem KpH.alloc {free : Nat → Obj → Prop} (W : World) (o : Obj) : KpH free W (W.alloc o) := ⟨by simp, fun _ _ hk _ _ => hA_ hk _⟩
theorem KpH.putObj {free : Nat → Obj → Prop} {W : World} {l : Nat} {o : Obj} (hl : W.heap[l]? = some o) (ho : o.isCells = false) (o' : Obj) : KpH free W (W.putObj l o') :=
  ⟨by simp, fun k ob hk hc _ => (World.putObj_heap_other (fun e => by subst e; rw [hl] at hk; cases hk; rw [ho] at hc; cases hc)).trans hk⟩
theorem grownH_of_below {w w' : World} (h : Below w.heap.size w w') : w.grownBy w' none := ⟨h.os, h.tape, h.output, h.size, fun k hk _ => h.block k hk⟩
theorem ownH_cells {β : Type} (b : Nat) (f : β → Obj) (hf : ∀ s, (f s).isCells = true) : Go.Own (fun s W => W.heap[b]? = some (f s)) := fun s X Y row hs hg hrow =>
  (hg.block b (hL_ hs) (fun e => by obtain ⟨o, ho, hc⟩ := hrow b e.symm; rw [hs] at ho; cases ho; rw [hf] at hc; cases hc)).trans hs
theorem ice_neq (i : Ic) (w : World) : (binOp .neq 38 (.agg (icV i)) (.agg (icV i))).run Try.prog w = .ok (.bool false) w := by
  have u3 := Try.underlying3;have a3 := Try.isAgg3;have z3 := Try.sizeOf3;have hS : Try.prog.underlying 38 = some (.struct (Try.prog.fieldsOf 38)) := by kernel_rfl
  have hp : Try.prog.stoodInHeld 38 = false := by kernel_rfl
  rw [run_neq_struct, show (10000 : Nat) = 9999 + 1 from rfl, run_equalIn_agg w 9999 38 _ _ hS hp];simp only [Program.fieldsOf, Try.underlying38];go_simp
theorem huends_any (i : Ic) (w : World) : Calls Try.prog 36 #[.agg (justV i)] w fun e w' => ∃ xb, e = .returned (.func (.func 57) #[] #[.pointer (some ⟨xb, 0, none⟩)]) ∧ w.heap.size ≤ xb ∧ w'.heap[xb]? = some (.cells (justV i) 35 (0, 0)) ∧ Below w.heap.size w w' := by
  have bX : Below w.heap.size w (w.alloc (.cells (justV i) 35)) := (Below.refl _ _).alloc (Nat.le_refl _) _;have hX := heap_alloc_new w (.cells (justV i) 35);have H := Lib.hid (And.intro hX bX);clear hX bX
  go_enter Try.func36, Try.ntmps36
  go_wp2_with fail
  go_ret;exact ⟨_, rfl, Nat.le_refl _, H.out⟩
section
variable {σ : Type} {nn : Nat} {P : Program} {ops : List Oper} {Q : Exit → Act → World → Prop} {a0 : Act} {φ : σ → Nat → Value → World → Prop} {W : σ → (Nat → Bool) → World → Prop} {i : Nat} {o : Oper}
theorem at_pure {s : σ} {l : Nat → Bool} {a : Act} {w : World} (h : W s (upd l i) w ∧ ∃ v, (execOp a.eval o).run P w = .ok (.value v) w ∧ φ s i v w) :
    o.wpIn Fence.wide nn P a w (fun a' w' => ∃ s' v, a' = a.put o.dst v ∧ W s' (upd l i) w' ∧ (o.dst.isSome = true → φ s' i v w') ∧ (∀ j u, l j = true → φ s j u w → φ s' j u w')) Q := by
  obtain ⟨hW', v, hr, hp⟩ := h;refine ⟨fun _ _ => trivial, ?_⟩;show o.uponIn Fence.wide nn P a _ Q ((execOp a.eval o).run P w);rw [hr];exact ⟨s, v, rfl, hW', fun _ => hp, fun _ _ _ h => h⟩
theorem at_call {s : σ} {l : Nat → Bool} {a : Act} {w : World} (h : ∃ f args, (execOp a.eval o).run P w = .ok (.enter f args) w ∧ Calls P f args w fun e w' => ∃ v s', e = .returned v ∧ W s' (upd l i) w' ∧ φ s' i v w' ∧ (∀ j u, l j = true → φ s j u w → φ s' j u w')) :
    o.wpIn Fence.wide nn P a w (fun a' w' => ∃ s' v, a' = a.put o.dst v ∧ W s' (upd l i) w' ∧ (o.dst.isSome = true → φ s' i v w') ∧ (∀ j u, l j = true → φ s j u w → φ s' j u w')) Q := by
  obtain ⟨f, args, hr, hc⟩ := h;refine ⟨fun _ _ => trivial, ?_⟩;show o.uponIn Fence.wide nn P a _ Q ((execOp a.eval o).run P w);rw [hr, Oper.uponIn_enter];refine ⟨(fun h => by cases h), (callsIn_wide.2 hc).mono ?_⟩;rintro e w' ⟨v, s', rfl, hW', hp, hst⟩;exact ⟨s', v, rfl, hW', fun _ => hp, hst⟩
theorem stepI_if (z : σ → Bool) (hw : ∀ (s : σ) (l : Nat → Bool) (a : Act) (w : World), (∀ e ∈ o.after.toList, Region.binds .any e = true → l e.on = true) → FrOk ops a0 (φ s) l a w → Region.wanted o (yielded ops.toArray a.tmps) = z s)
    (h : ∀ s l a w, z s = true → l i = false → (∀ e ∈ o.after.toList, Region.binds .any e = true → l e.on = true) → W s l w → FrOk ops a0 (φ s) l a w →
      o.wpIn Fence.wide nn P a w (fun a' w' => ∃ s' v, a' = a.put o.dst v ∧ W s' (upd l i) w' ∧ (o.dst.isSome = true → φ s' i v w') ∧ (∀ j u, l j = true → φ s j u w → φ s' j u w')) Q)
    (hn : ∀ s l w, z s = false → l i = false → W s l w → W s (upd l i) w ∧ φ s i undef w) : StepOkI nn P ops Q a0 φ W i o := by
  intro s l a w hl hd hW hF;unfold IStep;cases hz : z s
  · rw [if_neg (by rw [hw s l a w hd hF, hz]; decide)];obtain ⟨h1, h2⟩ := hn s l w hz hl hW;exact ⟨s, undef, rfl, h1, fun _ => h2, fun _ _ _ h => h⟩
  · rw [if_pos (by rw [hw s l a w hd hF, hz])];exact h s l a w hz hl hd hW hF
end
def EnV (l0 : Nat) (i : Ic) (s : Bool) : Nat → Value → Prop
  | 0, v => v = .func (.yield l0) #[] #[]
  | 1, v => v = .agg (justV i)
  | 2, v => v = .agg (icV i)
  | 3, v => v = .bool s
  | 4, v => v = .bool s
  | 5, v => s = true → v = .agg (justV i)
  | 6, v => s = true → v = .agg (icV i)
  | 7, v => s = true → v = .agg (justV i)
  | 8, v => s = true → v = .agg (icV i)
  | 9, v => s = true → v = .bool false
  | 10, v => v = .bool false
  | _, _ => True
def EnW (i : Ic) (xb : Nat) (J0 J1 Jx : World → Prop) (s : Bool) (l : Nat → Bool) (w : World) : Prop :=
  if l 3 then (s = true ∧ J1 w ∧ w.heap[xb]? = some (.cells (justV i) 35 (0, 0))) ∨ (s = false ∧ Jx w) else J0 w ∧ w.heap[xb]? = some (.cells (justV i) 35 (0, 0))
abbrev OneI (i : Ic) : Type := { x : Ic // x = i }
theorem ends1_stops (i : Ic) (xb : Nat) (free : Nat → Obj → Prop) (hfree : ∀ cs fr, ¬ free xb (.cells cs 35 fr)) (w : World) (hx0 : w.heap[xb]? = some (.cells (justV i) 35 (0, 0))) (n : Nat) (hn : 1 ≤ n) :
    SeqStopsK Fence.wide n Try.prog 57 #[.pointer (some ⟨xb, 0, none⟩)] (fun x : OneI i => #[.agg (icV x.1)]) (KpH free) (fun xs => xs = [⟨i, rfl⟩]) (fun pre => pre <+: [⟨i, rfl⟩]) 10 w := by
  intro l J Jx W hW hJ hJx hY h0;have hX : W.heap[xb]? = some (.cells (justV i) 35 (0, 0)) := (hW.block _ (hL_ hx0)).trans hx0;have HY := Lib.hid (And.intro hJ (And.intro hJx (And.intro hY (And.intro h0 hX))));have st : ∀ (pre : List (OneI i)) (a b : World), J pre a → Below a.heap.size a b → J pre b := fun pre a b hj hb => hJ _ a b none hj (grownH_of_below hb) (fun r e => by cases e);have HS := Lib.hid st;clear hJ hJx hY h0 hX hW hx0 st;refine callsIn_of_wp Try.func57 rfl trivial ?_ rfl;simp only [Try.ntmps57, List.size_toArray, List.length_cons, List.length_nil, Nat.reduceAdd, Nat.reduceSub, Array.replicate_succ, Array.replicate_zero, List.push_toArray, List.append_toArray, List.nil_append, List.cons_append]
  gi_upto_region 0 with fail
  refine wpIn_region_stepsI (σ := Bool) (by kernel_rfl) (by kernel_rfl) (fun sg jx vx _ => EnV l i sg jx vx) (fun sg ly wx => EnW i xb (J []) (J [⟨i, rfl⟩]) (Jx [⟨i, rfl⟩]) sg ly wx) false ?_ ?_ ?_
  · unfold EnW;rw [if_neg (by simp)];exact ⟨HS.out _ _ _ HY.out.2.2.2.1 (Below.refl _ _).drew, HY.out.2.2.2.2⟩
  · simp only [AllFrom, Nat.zero_add, Nat.reduceAdd];refine ⟨?_, ?_, ?_, ?_, ?_, ?_, ?_, ?_, ?_, ?_, ?_, trivial⟩
    · refine sIP rfl ?_;refine iP_ fun sg ly a wr hl hd hW hF => ?_;have et0 := hF.old 0 (by kernel_rfl);simp [Act.eval] at et0;exact ⟨by simpa [EnW, upd] using hW, .func (.yield l) #[] #[], by go_simp, rfl⟩
    · refine sIP rfl ?_;refine iP_ fun sg ly a wr hl hd hW hF => ?_;have et1 := hF.old 1 (by kernel_rfl);simp [Act.eval] at et1;have n2 := hF.notYet 1 2 hl (by kernel_rfl);have n3 := hF.notYet 2 3 n2 (by kernel_rfl);have hW' := hW;unfold EnW at hW';rw [if_neg (by simp [n3])] at hW';have hx := hW'.2;have q0 := (cOH hx 0).trans rfl; have q1 := (cOH hx 1).trans rfl; have q2 := (cOH hx 2).trans rfl; have q3 := (cOH hx 3).trans rfl; have q4 := (cOH hx 4).trans rfl; have q5 := (cOH hx 5).trans rfl; have q6 := (cOH hx 6).trans rfl; have q7 := (cOH hx 7).trans rfl;have zx := hL_ hx;exact ⟨by simpa [EnW, upd] using hW, .agg (justV i), by go_simp, rfl⟩
    · refine sIP rfl ?_;refine stepin_call fun sg ly a wr hl hd hW hF => ?_;simp [Region.binds] at hd;have et4 := hF.new 1 4 (by simp [hd]) rfl;simp [EnV, Act.eval] at et4;have n3 := hF.notYet 2 3 hl (by kernel_rfl);have hW' := hW;unfold EnW at hW';rw [if_neg (by simp [n3])] at hW';have hx := hW'.2;refine ⟨58, #[.agg (justV i)], by go_simp, ?_⟩;refine (hufirst_any i wr).mono ?_;rintro e w2 ⟨rfl, hb⟩;refine ⟨_, sg, rfl, ?_, rfl, fun _ _ _ h => h⟩;unfold EnW;rw [if_neg (by simp [upd, n3])];exact ⟨HS.out _ _ _ hW'.1 hb, (hb.block _ (hL_ hx)).trans hx⟩
    · refine sIP rfl ?_;refine stepin_round fun sg ly a wr hl hd hW hF => ?_;simp [Region.binds] at hd;have et3 := hF.new 0 3 (by simp [hd]) rfl;simp [EnV, Act.eval] at et3;have et5 := hF.new 2 5 (by simp [hd]) rfl;simp [EnV, Act.eval] at et5;have hW' := hW;unfold EnW at hW';rw [if_neg (by simp [hl])] at hW';have n4 := hF.notYet 3 4 hl (by kernel_rfl);have n5 := hF.notYet 4 5 n4 (by kernel_rfl);have n6 := hF.notYet 5 6 n5 (by kernel_rfl);have n7 := hF.notYet 4 7 n4 (by kernel_rfl);have n8 := hF.notYet 7 8 n7 (by kernel_rfl);have n9 := hF.notYet 8 9 n8 (by kernel_rfl);have n10 := hF.notYet 9 10 n9 (by kernel_rfl);obtain ⟨fn, tmps, assign, body, hy, hR⟩ := HY.out.2.2.1 [] ⟨i, rfl⟩ wr hW'.1 (by simp);dsimp only at hy;refine ⟨l, fn, tmps, assign, body, by go_simp, hR.mono ?_⟩;rintro e W3 (⟨rfl, hJ3, hk3⟩ | ⟨rfl, hJ3⟩)
      · refine ⟨_, true, rfl, by unfold EnW; rw [if_pos (by simp [upd])]; exact .inl ⟨rfl, hJ3, hk3.same _ _ hW'.2 rfl (hfree _ _)⟩, rfl, ?_⟩;intro j u hi h;have i3 : j ≠ 3 := by rintro rfl; rw [hl] at hi; cases hi
        have i4 : j ≠ 4 := by rintro rfl; rw [n4] at hi; cases hi
        have i5 : j ≠ 5 := by rintro rfl; rw [n5] at hi; cases hi
        have i6 : j ≠ 6 := by rintro rfl; rw [n6] at hi; cases hi
        have i7 : j ≠ 7 := by rintro rfl; rw [n7] at hi; cases hi
        have i8 : j ≠ 8 := by rintro rfl; rw [n8] at hi; cases hi
        have i9 : j ≠ 9 := by rintro rfl; rw [n9] at hi; cases hi
        have i10 : j ≠ 10 := by rintro rfl; rw [n10] at hi; cases hi
        unfold EnV at h ⊢;split at h <;> first | exact h | exact absurd rfl i3 | exact absurd rfl i4 | exact absurd rfl i5 | exact absurd rfl i6 | exact absurd rfl i7 | exact absurd rfl i8 | exact absurd rfl i9 | exact absurd rfl i10
      · refine ⟨_, false, rfl, by unfold EnW; rw [if_pos (by simp [upd])]; exact .inr ⟨rfl, hJ3⟩, rfl, ?_⟩;intro j u hi h;have i3 : j ≠ 3 := by rintro rfl; rw [hl] at hi; cases hi
        have i4 : j ≠ 4 := by rintro rfl; rw [n4] at hi; cases hi
        have i5 : j ≠ 5 := by rintro rfl; rw [n5] at hi; cases hi
        have i6 : j ≠ 6 := by rintro rfl; rw [n6] at hi; cases hi
        have i7 : j ≠ 7 := by rintro rfl; rw [n7] at hi; cases hi
        have i8 : j ≠ 8 := by rintro rfl; rw [n8] at hi; cases hi
        have i9 : j ≠ 9 := by rintro rfl; rw [n9] at hi; cases hi
        have i10 : j ≠ 10 := by rintro rfl; rw [n10] at hi; cases hi
        unfold EnV at h ⊢;split at h <;> first | exact h | exact absurd rfl i3 | exact absurd rfl i4 | exact absurd rfl i5 | exact absurd rfl i6 | exact absurd rfl i7 | exact absurd rfl i8 | exact absurd rfl i9 | exact absurd rfl i10
    · refine sIP rfl ?_;refine iP_ fun sg ly a wr hl hd hW hF => ?_;simp [Region.binds] at hd;have et6 := hF.new 3 6 (by simp [hd]) rfl;simp [EnV, Act.eval] at et6;exact ⟨by simpa [EnW, upd] using hW, .bool sg, by go_simp, rfl⟩
    · refine stepI_if (fun s => s) ?_ ?_ ?_
      · intro sg ly a wr hd hF;simp [Region.binds] at hd;exact (wQ_ hF (g := 4) (d := 7) (z := sg) (b := true) rfl rfl (by simp [hd]) (fun v hv => hv)).trans (by cases sg <;> rfl)
      · intro sg ly a wr hz hl hd hW hF;simp [Region.binds] at hd;have et1 := hF.old 1 (by kernel_rfl);simp [Act.eval] at et1;have y3 : ly 3 = true := hF.before 3 4 (by simp [hd]) (by kernel_rfl);have hW' := hW;unfold EnW at hW';rw [if_pos y3] at hW';obtain ⟨_, hj, hx⟩ := hW'.resolve_right (fun h => by rw [h.1] at hz; cases hz);have q0 := (cOH hx 0).trans rfl; have q1 := (cOH hx 1).trans rfl; have q2 := (cOH hx 2).trans rfl; have q3 := (cOH hx 3).trans rfl; have q4 := (cOH hx 4).trans rfl; have q5 := (cOH hx 5).trans rfl; have q6 := (cOH hx 6).trans rfl; have q7 := (cOH hx 7).trans rfl;have zx := hL_ hx;refine at_pure (φ := fun sg jx vx _ => EnV l i sg jx vx) (W := fun sg ly wx => EnW i xb (J []) (J [⟨i, rfl⟩]) (Jx [⟨i, rfl⟩]) sg ly wx) (s := sg) (l := ly) (i := 5) ?_;exact ⟨by simpa [EnW, upd] using hW, .agg (justV i), by go_simp, fun _ => rfl⟩
      · intro sg ly wr hz hl hW;exact ⟨by simpa [EnW, upd] using hW, by simp [EnV, hz]⟩
    · refine stepI_if (fun s => s) ?_ ?_ ?_
      · intro sg ly a wr hd hF;simp [Region.binds] at hd;exact (wQ_ hF (g := 4) (d := 7) (z := sg) (b := true) rfl rfl (by simp [hd]) (fun v hv => hv)).trans (by cases sg <;> rfl)
      · intro sg ly a wr hz hl hd hW hF;simp [Region.binds] at hd;have et8 := hF.new 5 8 (by simp [hd]) rfl;simp [EnV, Act.eval, hz] at et8;have y3 : ly 3 = true := hF.before 3 4 (by simp [hd]) (by kernel_rfl);have hW' := hW;unfold EnW at hW';rw [if_pos y3] at hW';obtain ⟨_, hj, hx⟩ := hW'.resolve_right (fun h => by rw [h.1] at hz; cases hz);refine at_call (φ := fun sg jx vx _ => EnV l i sg jx vx) (W := fun sg ly wx => EnW i xb (J []) (J [⟨i, rfl⟩]) (Jx [⟨i, rfl⟩]) sg ly wx) (s := sg) (l := ly) (i := 6) ?_;refine ⟨58, #[.agg (justV i)], by go_simp, ?_⟩;refine (hufirst_any i wr).mono ?_;rintro e w2 ⟨rfl, hb⟩;refine ⟨_, sg, rfl, ?_, fun _ => rfl, fun _ _ _ h => h⟩;unfold EnW;rw [if_pos (by simp [upd, y3])];exact .inl ⟨hz, HS.out _ _ _ hj hb, (hb.block _ (hL_ hx)).trans hx⟩
      · intro sg ly wr hz hl hW;exact ⟨by simpa [EnW, upd] using hW, by simp [EnV, hz]⟩
    · refine stepI_if (fun s => s) ?_ ?_ ?_
      · intro sg ly a wr hd hF;simp [Region.binds] at hd;exact (wQ_ hF (g := 4) (d := 7) (z := sg) (b := true) rfl rfl (by simp [hd]) (fun v hv => hv)).trans (by cases sg <;> rfl)
      · intro sg ly a wr hz hl hd hW hF;simp [Region.binds] at hd;have et1 := hF.old 1 (by kernel_rfl);simp [Act.eval] at et1;have y3 : ly 3 = true := hF.before 3 4 (by simp [hd]) (by kernel_rfl);have hW' := hW;unfold EnW at hW';rw [if_pos y3] at hW';obtain ⟨_, hj, hx⟩ := hW'.resolve_right (fun h => by rw [h.1] at hz; cases hz);have q0 := (cOH hx 0).trans rfl; have q1 := (cOH hx 1).trans rfl; have q2 := (cOH hx 2).trans rfl; have q3 := (cOH hx 3).trans rfl; have q4 := (cOH hx 4).trans rfl; have q5 := (cOH hx 5).trans rfl; have q6 := (cOH hx 6).trans rfl; have q7 := (cOH hx 7).trans rfl;have zx := hL_ hx;refine at_pure (φ := fun sg jx vx _ => EnV l i sg jx vx) (W := fun sg ly wx => EnW i xb (J []) (J [⟨i, rfl⟩]) (Jx [⟨i, rfl⟩]) sg ly wx) (s := sg) (l := ly) (i := 7) ?_;exact ⟨by simpa [EnW, upd] using hW, .agg (justV i), by go_simp, fun _ => rfl⟩
      · intro sg ly wr hz hl hW;exact ⟨by simpa [EnW, upd] using hW, by simp [EnV, hz]⟩
    · refine stepI_if (fun s => s) ?_ ?_ ?_
      · intro sg ly a wr hd hF;simp [Region.binds] at hd;exact (wQ_ hF (g := 4) (d := 7) (z := sg) (b := true) rfl rfl (by simp [hd]) (fun v hv => hv)).trans (by cases sg <;> rfl)
      · intro sg ly a wr hz hl hd hW hF;simp [Region.binds] at hd;have et10 := hF.new 7 10 (by simp [hd]) rfl;simp [EnV, Act.eval, hz] at et10;have y3 : ly 3 = true := hF.before 3 4 (by simp [hd]) (by kernel_rfl);have hW' := hW;unfold EnW at hW';rw [if_pos y3] at hW';obtain ⟨_, hj, hx⟩ := hW'.resolve_right (fun h => by rw [h.1] at hz; cases hz);refine at_call (φ := fun sg jx vx _ => EnV l i sg jx vx) (W := fun sg ly wx => EnW i xb (J []) (J [⟨i, rfl⟩]) (Jx [⟨i, rfl⟩]) sg ly wx) (s := sg) (l := ly) (i := 8) ?_;refine ⟨59, #[.agg (justV i)], by go_simp, ?_⟩;refine (hulast_any i wr).mono ?_;rintro e w2 ⟨rfl, hb⟩;refine ⟨_, sg, rfl, ?_, fun _ => rfl, fun _ _ _ h => h⟩;unfold EnW;rw [if_pos (by simp [upd, y3])];exact .inl ⟨hz, HS.out _ _ _ hj hb, (hb.block _ (hL_ hx)).trans hx⟩
      · intro sg ly wr hz hl hW;exact ⟨by simpa [EnW, upd] using hW, by simp [EnV, hz]⟩
    · refine stepI_if (fun s => s) ?_ ?_ ?_
      · intro sg ly a wr hd hF;simp [Region.binds] at hd;exact (wQ_ hF (g := 4) (d := 7) (z := sg) (b := true) rfl rfl (by simp [hd]) (fun v hv => hv)).trans (by cases sg <;> rfl)
      · intro sg ly a wr hz hl hd hW hF;simp [Region.binds] at hd;have et9 := hF.new 6 9 (by simp [hd]) rfl;simp [EnV, Act.eval, hz] at et9;have et11 := hF.new 8 11 (by simp [hd]) rfl;simp [EnV, Act.eval, hz] at et11;have hq := ice_neq i;refine at_pure (φ := fun sg jx vx _ => EnV l i sg jx vx) (W := fun sg ly wx => EnW i xb (J []) (J [⟨i, rfl⟩]) (Jx [⟨i, rfl⟩]) sg ly wx) (s := sg) (l := ly) (i := 9) ?_;exact ⟨by simpa [EnW, upd] using hW, .bool false, by go_simp, fun _ => rfl⟩
      · intro sg ly wr hz hl hW;exact ⟨by simpa [EnW, upd] using hW, by simp [EnV, hz]⟩
    · refine sIP rfl ?_;refine iP_ fun sg ly a wr hl hd hW hF => ?_;simp [Region.binds] at hd;have et7 := hF.new 4 7 (by simp [hd]) rfl;simp [EnV, Act.eval] at et7;have et12 := hF.new 9 12 (by simp [hd]) rfl;simp [EnV, Act.eval] at et12;refine ⟨by simpa [EnW, upd] using hW, .bool false, ?_, rfl⟩;cases sg
      · go_simp
      · have et12' := et12 rfl;go_simp
  intro sg a w5 hWW hF;have e13 := hF.new 10 13 (by decide) rfl;obtain ⟨f5, hf5, rfl⟩ := hF.lit;rw [← hf5] at e13;simp only [EnV] at e13;have hw5 : J [⟨i, rfl⟩] w5 ∨ Jx [⟨i, rfl⟩] w5 := by
    have h5 := hWW;unfold EnW at h5;rw [if_pos (by simp)] at h5;rcases h5 with ⟨_, h, _⟩ | ⟨_, h⟩
    · exact .inl h
    · exact .inr h
  have HZ := Lib.hid hw5;clear hf5 hF hWW hw5;simp only [List.filterMap, List.foldl, List.setIfInBounds_toArray, List.set_cons_succ, List.set_cons_zero, e13];clear e13
  gi_wp2
  go_end0
  refine ⟨⟨_, rfl⟩, ?_⟩;rcases HZ.out with h | h
  · first | exact .inl h | exact .inl ⟨_, rfl, h⟩
  · exact .inr ⟨_, List.prefix_refl _, h⟩
end Go.Proofs.Ytalcinepeofmcaa
namespace Go.Proofs.Ytalcinepeofmcaa
open Go Go.RowKit Sp Hu
def Hl1V (sb : Nat) (n vv : Int) (ch z : Bool) (s : Unit) : Nat → Value → Prop
  | 0, v => v = .int .i64 n
  | 1, v => v = .agg #[.int .i64 100, .int .i64 n, .int .i64 0, .int .i64 0]
  | 2, v => v = .bool ch
  | 3, v => v = .agg #[.pointer (some ⟨sb, 0, none⟩), .int .i64 100, .int .i64 n, .int .i64 0, .int .i64 0, .bool ch]
  | 4, v => v = .int .i64 vv
  | 5, v => v = .bool z
  | 6, v => v = .bool z
  | _, _ => True
theorem limit1_any (c : ShC) (cb vb : Nat) (ch : Bool) (v n : Int) (w : World) (E : ShE c w) (L : ShL c.s) (hcb : w.heap[cb]? = some (.cells #[.bool ch] 4 (0, 0))) (hvb : w.heap[vb]? = some (.cells #[.int .i64 v] 3 (0, 0))) (hn : 0 ≤ n ∧ n ≤ 400) (hv : 0 ≤ v ∧ v ≤ 1000) :
    Calls Try.prog 32 #[.int .i64 n, .pointer (some ⟨c.sb, 0, none⟩), .pointer (some ⟨cb, 0, none⟩), .pointer (some ⟨vb, 0, none⟩)] w fun e w' => e = .returned (.bool (makes c.s (lvl n) ch v)) ∧ Below w.heap.size w w' := by
  obtain ⟨z, hz⟩ : ∃ z, z = makes c.s (lvl n) ch v := ⟨_, rfl⟩;have km : ∀ wx, Below w.heap.size w wx → Calls Try.prog 34 #[.agg #[.pointer (some ⟨c.sb, 0, none⟩), .int .i64 100, .int .i64 n, .int .i64 0, .int .i64 0, .bool ch], .int .i64 v] wx fun e w' => e = .returned (.bool z) ∧ Below wx.heap.size wx w' := fun wx hb => by
    rw [hz]; exact makes_any c (lvl n) ch v wx (E.below hb) L (lvl_ok hn) hv
  rw [← hz];have HC := Lib.hid (And.intro hcb (And.intro hvb km));clear hcb hvb km hz
  go_enter Try.func32, Try.ntmps32
  go_upto_region 1 with fail
  refine wRS (σ := Unit) (by kernel_rfl) (by kernel_rfl) (fun sg jx vx _ => Hl1V c.sb n v ch z sg jx vx) (fun sg ly wx => Own w.heap.size w [] wx) () ?_ ?_ ?_
  · exact (Own.start w).drew
  · simp only [AllFrom, Nat.zero_add, Nat.reduceAdd];refine ⟨?_, ?_, ?_, ?_, ?_, ?_, ?_, trivial⟩
    · refine sP_ fun sg ly act wx hl hd hW hF => ?_;have et0 := hF.old 0 (by kernel_rfl);simp [Act.eval] at et0;exact ⟨hW, .int .i64 n, by go_simp, rfl⟩
    · refine sC_ fun sg ly act wx hl hd hW hF => ?_;simp [Region.binds] at hd;have et6 := hF.new 0 6 (by simp [hd]) rfl;simp [Hl1V, Act.eval] at et6;have hO := hW;try dsimp only at hO
      refine ⟨33, #[.int .i64 n], by go_simp, ?_⟩;refine (hulevel_any n wx).mono ?_;rintro e w2 ⟨rfl, hb⟩;exact ⟨_, sg, rfl, Own.below hW hb, rfl, fun _ _ _ h => h⟩
    · refine sP_ fun sg ly act wx hl hd hW hF => ?_;have et2 := hF.old 2 (by kernel_rfl);simp [Act.eval] at et2;have cq := (cOH ((Own.bel hW).block _ (hL_ HC.out.1) |>.trans HC.out.1) 0).trans rfl;have zq := hL_ ((Own.bel hW).block _ (hL_ HC.out.1) |>.trans HC.out.1);exact ⟨hW, .bool ch, by go_simp, rfl⟩
    · refine sP_ fun sg ly act wx hl hd hW hF => ?_;simp [Region.binds] at hd;have et1 := hF.old 1 (by kernel_rfl);simp [Act.eval] at et1;have et7 := hF.new 1 7 (by simp [hd]) rfl;simp [Hl1V, Act.eval] at et7;have et8 := hF.new 2 8 (by simp [hd]) rfl;simp [Hl1V, Act.eval] at et8;exact ⟨hW, .agg #[.pointer (some ⟨c.sb, 0, none⟩), .int .i64 100, .int .i64 n, .int .i64 0, .int .i64 0, .bool ch], by go_simp, rfl⟩
    · refine sP_ fun sg ly act wx hl hd hW hF => ?_;have et3 := hF.old 3 (by kernel_rfl);simp [Act.eval] at et3;have cq := (cOH ((Own.bel hW).block _ (hL_ HC.out.2.1) |>.trans HC.out.2.1) 0).trans rfl;have zq := hL_ ((Own.bel hW).block _ (hL_ HC.out.2.1) |>.trans HC.out.2.1);exact ⟨hW, .int .i64 v, by go_simp, rfl⟩
    · refine sC_ fun sg ly act wx hl hd hW hF => ?_;simp [Region.binds] at hd;have et9 := hF.new 3 9 (by simp [hd]) rfl;simp [Hl1V, Act.eval] at et9;have et10 := hF.new 4 10 (by simp [hd]) rfl;simp [Hl1V, Act.eval] at et10;have hO := hW;try dsimp only at hO
      refine ⟨34, #[.agg #[.pointer (some ⟨c.sb, 0, none⟩), .int .i64 100, .int .i64 n, .int .i64 0, .int .i64 0, .bool ch], .int .i64 v], by go_simp, ?_⟩;refine (HC.out.2.2 wx (Own.bel hW)).mono ?_;rintro e w2 ⟨rfl, hb⟩;exact ⟨_, sg, rfl, Own.below hW hb, rfl, fun _ _ _ h => h⟩
    · refine sP_ fun sg ly act wx hl hd hW hF => ?_;simp [Region.binds] at hd;have et11 := hF.new 5 11 (by simp [hd]) rfl;simp [Hl1V, Act.eval] at et11;exact ⟨hW, .bool z, by go_simp, rfl⟩
  intro sg af w4 hWW hF;have e5 := hF.new 6 5 (by decide) rfl;obtain ⟨ff, hf, rfl⟩ := hF.lit;rw [← hf] at e5;simp only [Hl1V] at e5;have HB := Lib.hid (Own.bel hWW);clear hWW hF hf;simp only [List.filterMap, List.foldl, List.setIfInBounds_toArray, List.set_cons_succ, List.set_cons_zero, e5];clear e5;go_wp2_with fail
  go_ret;exact ⟨rfl, HB.out⟩
def LimPost (s : Shp) (v : Int) (ch : Bool) (w : World) (e : Ending) (w' : World) : Prop :=
  ∃ t k, e = .returned (.tuple #[.int .i64 t, .int .i64 k]) ∧ ((k = 0 ∧ shipE s = 0 ∧ Grt (fun n => makes s (lvl n) ch v) 0 400 t) ∨ (k = 4 ∧ shipE s = 0 ∧ makes s (lvl 0) ch v = false ∧ t = 0) ∨ (k = shipE s ∧ k ≠ 0 ∧ t = 0)) ∧ Below w.heap.size w w'
theorem limit_any (At : Option Addr) (ct : Nat) (Aw : Option Addr) (cw : Nat) (Ai : Option Addr) (ci : Nat) (s : Shp) (v : Int) (ch : Bool) (w : World) (R : ShR At Aw Ai s w) (hv : 0 ≤ v ∧ v ≤ 250) :
    Calls Try.prog 14 #[.agg (shpV At ct Aw cw Ai ci s), .int .i64 v, .bool ch] w (LimPost s v ch w) := by
  obtain ⟨X, hX⟩ : ∃ X, X = ((w.alloc (.cells (shpV At ct Aw cw Ai ci s) 25)).alloc (.cells #[.int .i64 v] 3)).alloc (.cells #[.bool ch] 4) := ⟨_, rfl⟩;obtain ⟨sb, hsb⟩ : ∃ b, b = w.heap.size := ⟨_, rfl⟩;obtain ⟨vb, hvb⟩ : ∃ b, b = w.heap.size + 1 := ⟨_, rfl⟩;obtain ⟨cb, hcb⟩ : ∃ b, b = w.heap.size + 1 + 1 := ⟨_, rfl⟩;have O : Own w.heap.size w [.blk sb (.cells (shpV At ct Aw cw Ai ci s) 25), .blk vb (.cells #[.int .i64 v] 3), .blk cb (.cells #[.bool ch] 4)] X := by
    have h := (((Own.start w).alloc (.cells (shpV At ct Aw cw Ai ci s) 25)).alloc (.cells #[.int .i64 v] 3)).alloc (.cells #[.bool ch] 4);rw [hX, hsb, hvb, hcb]; simpa using h
  obtain ⟨e0, he⟩ : ∃ e, e = shipE s := ⟨_, rfl⟩;have RX := R.below O.bel;have k0 := huasked_any At ct Aw cw Ai ci s ⟨0, 0, 0, 0⟩ v X RX;have hE : huAskedE s ⟨0, 0, 0, 0⟩ v = e0 := by
    unfold huAskedE;rw [← he];by_cases h0 : e0 = 0
    · rw [if_neg (by simpa using h0), h0];unfold loadE icE;simp only [Pt.within_iff, within, decide_true, Bool.and_true, if_true, ne_eq, not_true, if_false];simp; omega
    · rw [if_pos h0]
  rw [hE] at k0;have HR := Lib.hid (And.intro he RX);have H0 := Lib.hid (And.intro k0 O);clear hE he R k0 RX;have hh := O.heap 0 rfl;have s0 : X.cell? ⟨sb, 0, none⟩ = some _ := (cOH hh 0).trans rfl;have s1 : X.cell? ⟨sb, 1, none⟩ = some _ := (cOH hh 1).trans rfl;have s2 : X.cell? ⟨sb, 2, none⟩ = some _ := (cOH hh 2).trans rfl;have s3 : X.cell? ⟨sb, 3, none⟩ = some _ := (cOH hh 3).trans rfl;have s4 : X.cell? ⟨sb, 4, none⟩ = some _ := (cOH hh 4).trans rfl;have s5 : X.cell? ⟨sb, 5, none⟩ = some _ := (cOH hh 5).trans rfl;have s6 : X.cell? ⟨sb, 6, none⟩ = some _ := (cOH hh 6).trans rfl;have s7 : X.cell? ⟨sb, 7, none⟩ = some _ := (cOH hh 7).trans rfl;have s8 : X.cell? ⟨sb, 8, none⟩ = some _ := (cOH hh 8).trans rfl;have s9 : X.cell? ⟨sb, 9, none⟩ = some _ := (cOH hh 9).trans rfl;have s10 : X.cell? ⟨sb, 10, none⟩ = some _ := (cOH hh 10).trans rfl;have zs := hL_ hh;have h1 := O.heap 1 rfl;have u0 : X.cell? ⟨vb, 0, none⟩ = some (.int .i64 v) := (cOH h1 0).trans rfl;have zv := hL_ h1;clear hh h1 O;by_cases h0 : e0 = 0
  · subst h0
    go_enter Try.func14, Try.ntmps14
    go_upto_region 1 with fail
    rw [← hX, ← hcb, ← hvb, ← hsb];clear hX hcb hvb hsb;go_upto_region 4 with (go_at_call 30; refine H0.out.1.mono ?_; rintro e w1 ⟨rfl, b1⟩; have HB := Lib.hid b1; clear b1)
    have O1 := H0.out.2.below HB.out;have sok := shipE_ok HR.out.1.symm;have E1 : ShE ⟨sb, At, ct, Aw, cw, Ai, ci, s⟩ w1 := ⟨O1.heap 0 rfl, (HR.out.2.below HB.out).rt, (HR.out.2.below HB.out).rw_, (HR.out.2.below HB.out).ri⟩;have L1 : ShL s := ⟨sok.1, sok.2.2.2.2.2.1, sok.2.2.2.2.2.2.1, sok.2.2.2.2.2.2.2.1, sok.2.2.1⟩;have kg := grtL_any sb cb vb (fun n => makes s (lvl n) ch v) 0 400 w1 (by decide) (fun a b h1 h2 h3 hm => makes_t sok.1 (by omega) ch hv.1 h1 h2 (Int.le_refl 0) hm) (fun n h1 h2 wx hb => limit1_any ⟨sb, At, ct, Aw, cw, Ai, ci, s⟩ cb vb ch v n wx (E1.below hb) L1 ((hb.block _ (hL_ (O1.heap 2 rfl))).trans (O1.heap 2 rfl)) ((hb.block _ (hL_ (O1.heap 1 rfl))).trans (O1.heap 1 rfl)) ⟨h1, h2⟩ (by omega));have KG := Lib.hid (And.intro kg O1.bel);have z1 := hL_ (O1.heap 0 rfl);have z2 := hL_ (O1.heap 1 rfl);have z3 := hL_ (O1.heap 2 rfl);clear kg E1 L1 O1 sok;go_upto_region 5 with (go_at_call 31; refine KG.out.1.mono ?_; rintro e w2 ⟨r, b, rfl, hg, b2⟩; have HG := Lib.hid (And.intro hg (KG.out.2.trans (b2.mono KG.out.2.size))); clear hg b2)
    cases b
    · go_wp2_with fail
      go_ret2
      rcases HG.out.1 with ⟨hb, _⟩ | ⟨_, h1, h2⟩
      · cases hb
      · exact ⟨0, 4, rfl, .inr (.inl ⟨rfl, HR.out.1.symm, h1, rfl⟩), HG.out.2⟩
    · go_wp2_with fail
      go_ret2
      rcases HG.out.1 with ⟨_, h1⟩ | ⟨hb, _⟩
      · exact ⟨r, 0, rfl, .inl ⟨rfl, HR.out.1.symm, h1⟩, HG.out.2⟩
      · cases hb
  · have hn : (e0 != 0) = true := by simpa using h0
    go_enter Try.func14, Try.ntmps14
    go_upto_region 1 with fail
    rw [← hX, ← hcb, ← hvb, ← hsb];clear hX hcb hvb hsb;go_wp2_with (go_at_call 30; refine H0.out.1.mono ?_; rintro e w1 ⟨rfl, b1⟩; have HB := Lib.hid (H0.out.2.bel.trans (b1.mono H0.out.2.bel.size)); clear b1)
    go_ret2
    exact ⟨0, e0, rfl, .inr (.inr ⟨HR.out.1, h0, rfl⟩), HB.out⟩
theorem takes_any (At : Option Addr) (ct : Nat) (Aw : Option Addr) (cw : Nat) (Ai : Option Addr) (ci : Nat) (s : Shp) (w : World) (R : ShR At Aw Ai s w) :
    Calls Try.prog 5 #[.agg (shpV At ct Aw cw Ai ci s)] w (LimPost s 10 true w) := by
  obtain ⟨X, hX⟩ : ∃ X, X = w.alloc (.cells (shpV At ct Aw cw Ai ci s) 25) := ⟨_, rfl⟩;obtain ⟨sb, hsb⟩ : ∃ b, b = w.heap.size := ⟨_, rfl⟩;have O : Own w.heap.size w [.blk sb (.cells (shpV At ct Aw cw Ai ci s) 25)] X := by
    have h := (Own.start w).alloc (.cells (shpV At ct Aw cw Ai ci s) 25);rw [hX, hsb]; simpa using h
  have k0 := limit_any At ct Aw cw Ai ci s 10 true X (R.below O.bel) (by decide);have H0 := Lib.hid (And.intro k0 O.bel);have hh := O.heap 0 rfl;have s0 : X.cell? ⟨sb, 0, none⟩ = some _ := (cOH hh 0).trans rfl;have s1 : X.cell? ⟨sb, 1, none⟩ = some _ := (cOH hh 1).trans rfl;have s2 : X.cell? ⟨sb, 2, none⟩ = some _ := (cOH hh 2).trans rfl;have s3 : X.cell? ⟨sb, 3, none⟩ = some _ := (cOH hh 3).trans rfl;have s4 : X.cell? ⟨sb, 4, none⟩ = some _ := (cOH hh 4).trans rfl;have s5 : X.cell? ⟨sb, 5, none⟩ = some _ := (cOH hh 5).trans rfl;have s6 : X.cell? ⟨sb, 6, none⟩ = some _ := (cOH hh 6).trans rfl;have s7 : X.cell? ⟨sb, 7, none⟩ = some _ := (cOH hh 7).trans rfl;have s8 : X.cell? ⟨sb, 8, none⟩ = some _ := (cOH hh 8).trans rfl;have s9 : X.cell? ⟨sb, 9, none⟩ = some _ := (cOH hh 9).trans rfl;have s10 : X.cell? ⟨sb, 10, none⟩ = some _ := (cOH hh 10).trans rfl;have zs := hL_ hh;clear hh O R k0
  go_enter Try.func5, Try.ntmps5
  go_upto_region 1 with fail
  rw [← hX, ← hsb];clear hX hsb;go_wp2_with (go_at_call 14; refine H0.out.1.mono ?_; rintro e w1 ⟨t, k, rfl, hp, b1⟩; have HB := Lib.hid (And.intro hp (H0.out.2.trans (b1.mono H0.out.2.size))); clear hp b1)
  go_ret2
  exact ⟨t, k, rfl, HB.out.1, HB.out.2⟩
end Go.Proofs.Ytalcinepeofmcaa
namespace Go.Proofs.Ytalcinepeofmcaa
open Go Go.RowKit Go.Shelf Go.Proofs Sp Hu
attribute [local go_sem] Oper.semAt_some
def freeSp (B : Nat) (k : Nat) (o : Obj) : Prop := B ≤ k ∧ ∃ cs fr, o = .cells cs 33 fr
theorem own_sp {β : Type} (b : Nat) (G : List β → Int → Int → Prop) : Go.Own (fun pre W => ∃ lo hi : Int, W.heap[b]? = some (.cells #[.int .i64 lo, .int .i64 hi] 33 (0, 0)) ∧ G pre lo hi) := by
  rintro s X Y row ⟨lo, hi, ha, hG⟩ hg hrow;exact ⟨lo, hi, (hg.block b (hL_ ha) (fun e => by obtain ⟨o, ho, hc⟩ := hrow b e.symm; rw [ha] at ho; cases ho; cases hc)).trans ha, hG⟩
def SpG (s : Shp) (i : Ic) (ch : Bool) (pre : List (OneI i)) (lo hi : Int) : Prop :=
  (0 ≤ lo ∧ lo ≤ 250 ∧ 0 ≤ hi ∧ hi ≤ 250) ∧ (pre = [] → lo = 250 ∧ hi = 0) ∧ (pre ≠ [] → (lo < 10 ↔ makes s i ch 10 = false) ∧ (hi < 10 ↔ makes s i ch 10 = false))
theorem spG_snoc {s : Shp} {i : Ic} {ch : Bool} {pre : List (OneI i)} {x : OneI i} {lo hi v a' b' : Int} (h : SpG s i ch pre lo hi) (hv : 0 ≤ v ∧ v ≤ 250) (hq : v < 10 ↔ makes s i ch 10 = false) (ha : a' = if v < lo then v else lo) (hb : b' = if hi < v then v else hi) : SpG s i ch (pre ++ [x]) a' b' := by
  subst ha; subst hb;obtain ⟨h1, h2, h3⟩ := h;refine ⟨by split <;> split <;> omega, fun e => by simp at e, fun _ => ?_⟩;rw [← hq];by_cases hp : pre = []
  · obtain ⟨rfl, rfl⟩ := h2 hp;constructor <;> split <;> omega
  · obtain ⟨a, b⟩ := h3 hp;rw [← hq] at a b;constructor <;> split <;> omega
theorem sp_results2 {F : Func} {r s : Nat} (hF : F.results = #[.cell r 33, .tmp s]) {W : World} {b : Nat} {lo hi : Int} (h : W.heap[b]? = some (.cells #[.int .i64 lo, .int .i64 hi] 33 (0, 0))) (tmps : Array Value) (v : Value) (hr : tmps.getD r undef = .pointer (some ⟨b, 0, none⟩)) (hs : tmps.getD s undef = v) :
    (results F tmps).run Try.prog W = .ok (.tuple #[.agg #[.int .i64 lo, .int .i64 hi], v]) W := by
  have g8 : tmps[r]?.getD undef = .pointer (some ⟨b, 0, none⟩) := by simpa using hr
  have g9 : tmps[s]?.getD undef = v := by simpa using hs
  have c0 : W.cell? ⟨b, 0, none⟩ = some (.int .i64 lo) := (cOH h 0).trans rfl;have c1 : W.cell? ⟨b, 1, none⟩ = some (.int .i64 hi) := (cOH h 1).trans rfl;simp [results, hF, g8, g9, asAddr, go_sem, c0, c1]
def SpsPost (s : Shp) (i : Ic) (ch : Bool) (w : World) (e : Ending) (w' : World) : Prop :=
  ∃ lo hi : Int, e = .returned (.tuple #[.agg #[.int .i64 lo, .int .i64 hi], .int .i64 0]) ∧ (lo < 10 ↔ makes s i ch 10 = false) ∧ (hi < 10 ↔ makes s i ch 10 = false) ∧ Below w.heap.size w w'
theorem speeds_any (At : Option Addr) (ct : Nat) (Aw : Option Addr) (cw : Nat) (Ai : Option Addr) (ci : Nat) (s : Shp) (i : Ic) (ch : Bool) (w : World) (R : ShR At Aw Ai s w) (h0 : shipE s = 0) (hi : IcOk i) :
    Calls Try.prog 15 #[.agg (shpV At ct Aw cw Ai ci s), .agg (justV i), .bool ch] w (SpsPost s i ch w) := by
  obtain ⟨W, hW⟩ : ∃ W, W = (((w.alloc (.cells (shpV At ct Aw cw Ai ci s) 25)).alloc (.cells (justV i) 35)).alloc (.cells #[.bool ch] 4)).alloc (.cells #[.int .i64 0, .int .i64 0] 33) := ⟨_, rfl⟩;obtain ⟨sb, hsb⟩ : ∃ b, b = w.heap.size := ⟨_, rfl⟩;obtain ⟨cb, hcb⟩ : ∃ b, b = w.heap.size + 1 := ⟨_, rfl⟩;obtain ⟨hb, hhb⟩ : ∃ b, b = w.heap.size + 1 + 1 := ⟨_, rfl⟩;obtain ⟨rb, hrb⟩ : ∃ b, b = w.heap.size + 1 + 1 + 1 := ⟨_, rfl⟩;have O : Own w.heap.size w [.blk sb (.cells (shpV At ct Aw cw Ai ci s) 25), .blk cb (.cells (justV i) 35), .blk hb (.cells #[.bool ch] 4), .blk rb (.cells #[.int .i64 0, .int .i64 0] 33)] W := by
    have h := ((((Own.start w).alloc (.cells (shpV At ct Aw cw Ai ci s) 25)).alloc (.cells (justV i) 35)).alloc (.cells #[.bool ch] 4)).alloc (.cells #[.int .i64 0, .int .i64 0] 33);rw [hW, hsb, hcb, hhb, hrb]; simpa using h
  have RX := R.below O.bel;have km := met_any At ct Aw cw Ai ci s (justC i) W RX;have hE : metE s (justC i) = 0 := by unfold metE; rw [if_neg (by simpa using h0)]; exact celE_just hi
  rw [hE] at km;have sok := shipE_ok h0;have L0 : ShL s := ⟨sok.1, sok.2.2.2.2.2.1, sok.2.2.2.2.2.2.1, sok.2.2.2.2.2.2.2.1, sok.2.2.1⟩;have hge : w.heap.size ≤ sb ∧ w.heap.size ≤ cb ∧ w.heap.size ≤ hb ∧ w.heap.size ≤ rb := by omega
  have HM := Lib.hid (And.intro km (And.intro O (And.intro R (And.intro sok (And.intro L0 hi)))));have s_ := O.heap 0 rfl;have c_ := O.heap 1 rfl;have s0 : W.cell? ⟨sb, 0, none⟩ = some _ := (cOH s_ 0).trans rfl;have s1 : W.cell? ⟨sb, 1, none⟩ = some _ := (cOH s_ 1).trans rfl;have s2 : W.cell? ⟨sb, 2, none⟩ = some _ := (cOH s_ 2).trans rfl;have s3 : W.cell? ⟨sb, 3, none⟩ = some _ := (cOH s_ 3).trans rfl;have s4 : W.cell? ⟨sb, 4, none⟩ = some _ := (cOH s_ 4).trans rfl;have s5 : W.cell? ⟨sb, 5, none⟩ = some _ := (cOH s_ 5).trans rfl;have s6 : W.cell? ⟨sb, 6, none⟩ = some _ := (cOH s_ 6).trans rfl;have s7 : W.cell? ⟨sb, 7, none⟩ = some _ := (cOH s_ 7).trans rfl;have s8 : W.cell? ⟨sb, 8, none⟩ = some _ := (cOH s_ 8).trans rfl;have s9 : W.cell? ⟨sb, 9, none⟩ = some _ := (cOH s_ 9).trans rfl;have s10 : W.cell? ⟨sb, 10, none⟩ = some _ := (cOH s_ 10).trans rfl;have k0 : W.cell? ⟨cb, 0, none⟩ = some _ := (cOH c_ 0).trans rfl;have k1 : W.cell? ⟨cb, 1, none⟩ = some _ := (cOH c_ 1).trans rfl;have k2 : W.cell? ⟨cb, 2, none⟩ = some _ := (cOH c_ 2).trans rfl;have k3 : W.cell? ⟨cb, 3, none⟩ = some _ := (cOH c_ 3).trans rfl;have k4 : W.cell? ⟨cb, 4, none⟩ = some _ := (cOH c_ 4).trans rfl;have k5 : W.cell? ⟨cb, 5, none⟩ = some _ := (cOH c_ 5).trans rfl;have k6 : W.cell? ⟨cb, 6, none⟩ = some _ := (cOH c_ 6).trans rfl;have k7 : W.cell? ⟨cb, 7, none⟩ = some _ := (cOH c_ 7).trans rfl;have zs := hL_ s_;have zc := hL_ c_;clear O RX km hE h0 sok L0 s_ c_;refine (callsIn_wide (n := 9)).1 ?_;refine callsIn_of_wp_marks Try.func15 rfl trivial ?_ rfl;simp only [Try.ntmps15, List.size_toArray, List.length_cons, List.length_nil, Nat.reduceAdd, Nat.reduceSub, Array.replicate_succ, Array.replicate_zero, List.push_toArray, List.append_toArray, List.nil_append, List.cons_append]
  gi_upto_region 1 with fail
  rw [← hW, ← hrb, ← hhb, ← hcb, ← hsb];clear hW hrb hhb hcb hsb
  gi_upto_region 2 with (refine ⟨trivial, ?_⟩; gi_at_call 35; refine (callsIn_wide.2 HM.out.1).mono ?_; rintro e w1 ⟨rfl, b1⟩; have H1 := Lib.hid b1; clear b1 s0 s1 s2 s3 s4 s5 s6 s7 s8 s9 s10 k0 k1 k2 k3 k4 k5 k6 k7 zs zc)
  gi_upto_region 5 with fail
  obtain ⟨ob, hob⟩ : ∃ b, b = w1.heap.size := ⟨_, rfl⟩;obtain ⟨W2, hW2⟩ : ∃ W2, W2 = w1.alloc (.cells #[.int .i64 250, .int .i64 0] 33) := ⟨_, rfl⟩;have O2 : Own w.heap.size w [.blk sb (.cells (shpV At ct Aw cw Ai ci s) 25), .blk cb (.cells (justV i) 35), .blk hb (.cells #[.bool ch] 4), .blk rb (.cells #[.int .i64 0, .int .i64 0] 33), .blk ob (.cells #[.int .i64 250, .int .i64 0] 33)] W2 := by
    have h := (HM.out.2.1.below H1.out).alloc (.cells #[.int .i64 250, .int .i64 0] 33);rw [hW2, hob]; exact h
  have c_ := O2.heap 1 rfl;have k0 : W2.cell? ⟨cb, 0, none⟩ = some _ := (cOH c_ 0).trans rfl;have k1 : W2.cell? ⟨cb, 1, none⟩ = some _ := (cOH c_ 1).trans rfl;have k2 : W2.cell? ⟨cb, 2, none⟩ = some _ := (cOH c_ 2).trans rfl;have k3 : W2.cell? ⟨cb, 3, none⟩ = some _ := (cOH c_ 3).trans rfl;have k4 : W2.cell? ⟨cb, 4, none⟩ = some _ := (cOH c_ 4).trans rfl;have k5 : W2.cell? ⟨cb, 5, none⟩ = some _ := (cOH c_ 5).trans rfl;have k6 : W2.cell? ⟨cb, 6, none⟩ = some _ := (cOH c_ 6).trans rfl;have k7 : W2.cell? ⟨cb, 7, none⟩ = some _ := (cOH c_ 7).trans rfl;have zc := hL_ c_;have H2 := Lib.hid O2;clear O2 c_;rw [← hW2, ← hob];have hlt : rb < ob ∧ sb < ob ∧ hb < ob := by
    have h := HM.out.2.1.below H1.out;have h1 := hL_ (h.heap 3 rfl);have h2 := hL_ (h.heap 0 rfl);have h3 := hL_ (h.heap 2 rfl);omega
  clear hW2 hob;have ke := huends_any i W2
  gi_wp2_with (refine ⟨trivial, ?_⟩; gi_at_call 36; refine (callsIn_wide.2 ke).mono ?_; rintro e w3 ⟨xb, rfl, hx1, hx2, b3⟩; have H3 := Lib.hid (And.intro hx1 (And.intro hx2 b3)); clear hx1 hx2 b3 k0 k1 k2 k3 k4 k5 k6 k7 zc ke)
  have hbw : Below w.heap.size w w3 := H2.out.bel.trans (H3.out.2.2.mono H2.out.bel.size);have O3 := H2.out.below H3.out.2.2;have rs := O3.heap 0 rfl;have rh := O3.heap 2 rfl;have rr := O3.heap 3 rfl;have ro := O3.heap 4 rfl;have hbs := hbw.size;have H4 := Lib.hid (And.intro hbw (And.intro rs (And.intro rh (And.intro rr ro))));have HR := Lib.hid (And.intro R hi);have hgo : w.heap.size ≤ ob := by omega
  have hsz : ∀ W : World, Below w.heap.size w W → w.heap.size ≤ W.heap.size := fun W h => h.size;clear O3 R hi;refine wpIn_rangeFunc_ownH rfl (by omega) (gf := 57) (lb := #[.pointer (some ⟨xb, 0, none⟩)]) rfl trivial (enters_of Try.func57 (by kernel_rfl) rfl)
    (ends1_stops i xb (freeSp w.heap.size) (fun cs fr h => by obtain ⟨_, cs', fr', e⟩ := h; injection e with _ e _; exact absurd e (by decide)) w3 H3.out.2.1 _ (by omega))
    (fun h h' => h.trans h') (fun W l o o' _ hl ho _ => KpH.putObj hl ho o') (Below.refl _ _) (fun _ => rfl)
    (fun pre W => ((((∃ lo hi : Int, W.heap[ob]? = some (.cells #[.int .i64 lo, .int .i64 hi] 33 (0, 0)) ∧ SpG s i ch pre lo hi) ∧ W.heap[rb]? = some (.cells #[.int .i64 0, .int .i64 0] 33 (0, 0))) ∧ W.heap[sb]? = some (.cells (shpV At ct Aw cw Ai ci s) 25 (0, 0))) ∧ W.heap[hb]? = some (.cells #[.bool ch] 4 (0, 0))) ∧ Below w.heap.size w W)
    (fun _ _ _ => False)
    (OwnFrom.and (OwnFrom.and (OwnFrom.and (OwnFrom.and (Go.Own.from (own_sp ob (SpG s i ch)) _) (Go.Own.from (ownH_cells rb (fun _ : List (OneI i) => .cells #[.int .i64 0, .int .i64 0] 33 (0, 0)) (fun _ => rfl)) _)) (Go.Own.from (ownH_cells sb (fun _ : List (OneI i) => .cells (shpV At ct Aw cw Ai ci s) 25 (0, 0)) (fun _ => rfl)) _)) (Go.Own.from (ownH_cells hb (fun _ : List (OneI i) => .cells #[.bool ch] 4 (0, 0)) (fun _ => rfl)) _)) (ownFrom_below (Nat.le_refl _) hbs))
    (fun _ _ _ _ _ hs _ _ => hs)
    ⟨⟨⟨⟨⟨250, 0, ro, ⟨by omega, fun _ => ⟨rfl, rfl⟩, fun h => absurd rfl h⟩⟩, rr⟩, rs⟩, rh⟩, hbw⟩
    (fun x a' W => ∃ Bx, w.heap.size ≤ Bx ∧ W.heap[Bx]? = some (.cells (icV x.1) 38 (0, 0)) ∧
      a' = { tmps := #[.agg (shpV At ct Aw cw Ai ci s), .agg (justV i), .bool ch, .pointer (some ⟨sb, 0, none⟩), .pointer (some ⟨cb, 0, none⟩), .pointer (some ⟨hb, 0, none⟩), .pointer (some ⟨rb, 0, none⟩), .int .i64 0, .int .i64 0, .pointer (some ⟨ob, 0, none⟩), .pointer (some ⟨Bx, 0, none⟩), undef,
        .agg (shpV At ct Aw cw Ai ci s), .agg (justV i), .int .i64 0, .int .i64 0, .bool false, undef, undef, .agg #[.int .i64 250, .int .i64 0], .agg (justV i), .func (.func 57) #[] #[.pointer (some ⟨xb, 0, none⟩)], .agg (icV x.1), undef, undef, undef, undef, undef, undef, undef, undef, undef, undef, undef, undef, undef, undef, undef], defers := [] })
    (fun x a' s X Y row hs hg hrow => by
      obtain ⟨Bx, h1, h2, h3⟩ := hs;refine ⟨Bx, h1, (hg.block Bx (hL_ h2) (fun e => ?_)).trans h2, h3⟩;obtain ⟨_, o, ho, hc⟩ := hrow Bx e.symm;rw [h2] at ho; cases ho; cases hc)
    ?assign ?body ?done ?stop
  case assign =>
    rintro l pre x W K ⟨⟨⟨⟨⟨lo, hi, ho, hG⟩, hr⟩, hs⟩, hh⟩, hB⟩ hK
    gi_wp2
    exact hK _ _ ((KeepsOthers.alloc _ _).from _) (KpH.alloc _ _) ⟨⟨⟨⟨⟨lo, hi, hA_ ho _, hG⟩, hA_ hr _⟩, hA_ hs _⟩, hA_ hh _⟩, hB.alloc hB.size _⟩ ⟨W.heap.size, hsz W hB, heap_alloc_new W _, rfl⟩
  case body =>
    rintro l pre ⟨x, hx⟩ a' W hlw ⟨r, hr'⟩ ⟨⟨⟨⟨⟨lo, hi, ho, hG⟩, hr⟩, hs⟩, hh⟩, hB⟩ ⟨Bx, hBx, bX, rfl⟩ hlt;have hx' : i = x := hx.symm;subst hx';have E : ShE ⟨sb, At, ct, Aw, cw, Ai, ci, s⟩ W := ⟨hs, (HR.out.1.below hB).rt, (HR.out.1.below hB).rw_, (HR.out.1.below hB).ri⟩;have kj := speed_any ⟨sb, At, ct, Aw, cw, Ai, ci, s⟩ i ch W E HM.out.2.2.2.2.1 HR.out.2;have x0 := (cOH bX 0).trans rfl;have x1 := (cOH bX 1).trans rfl;have x2 := (cOH bX 2).trans rfl;have x3 := (cOH bX 3).trans rfl;have y0 := (cOH hh 0).trans rfl;have zx := hL_ bX;have zy := hL_ hh;have zs := hL_ hs;have hA := Lib.hid (And.intro ho (And.intro hG (And.intro hr (And.intro hs (And.intro hh (And.intro hB bX))))));have HJ := Lib.hid kj;clear ho hG hr hs hh hB bX kj E
    gi_wp2_with (refine ⟨trivial, ?_⟩; gi_at_call 37; refine (CallsIn.inRound l (callsIn_wide.2 HJ.out)).mono ?_; rintro e w2 ⟨v, bv, rfl, hg, b2⟩; have ho2 := (b2.block ob (hL_ hA.out.1)).trans hA.out.1; have p0 := fOH ho2 0; have p1 := fOH ho2 1; have zo2 := hL_ ho2; have c0 := (cOH ho2 0).trans rfl; have c1 := (cOH ho2 1).trans rfl; have HB2 := Lib.hid (And.intro b2 (And.intro ho2 hg)); clear b2 ho2 hg)
    all_goals
      obtain ⟨b2, ho2, hg⟩ := HB2.out;obtain ⟨ho, hG, hr, hs, hh, hB, bX⟩ := hA.out;have sp := speed_iff HM.out.2.2.2.1.1 HR.out.2 hg;have hr2 := (b2.block rb (hL_ hr)).trans hr;have hs2 := (b2.block sb (hL_ hs)).trans hs;have hh2 := (b2.block hb (hL_ hh)).trans hh;refine ⟨?_, ?_, ⟨⟨⟨⟨⟨_, _, hS_ (hS_ ho2 0 _) 1 _, spG_snoc hG sp.1 sp.2 (by split <;> omega) (by split <;> omega)⟩, ?_⟩, ?_⟩, ?_⟩, ?_⟩⟩
      · exact ((KeepsOthers.mk b2.size fun i o hi _ => (b2.block i (hL_ hi)).trans hi).trans ((KeepsOthers.setCell _ _ _).trans (KeepsOthers.setCell _ _ _))).from _
      · refine ⟨by simpa using b2.size, fun j o hj hc hf => ?_⟩;have hjo : j ≠ ob := fun e => hf (by subst e; rw [ho] at hj; cases hj; exact ⟨hgo, _, _, rfl⟩);exact hSN (hSN ((b2.block j (hL_ hj)).trans hj) (fun e => hjo e) _) (fun e => hjo e) _
      · exact hSN (hSN hr2 (by simp; omega) _) (by simp; omega) _
      · exact hSN (hSN hs2 (by simp; omega) _) (by simp; omega) _
      · exact hSN (hSN hh2 (by simp; omega) _) (by simp; omega) _
      · exact ((hB.trans (b2.mono hB.size)).setCell hgo _).setCell hgo _
  case done =>
    rintro D ys W hD2 rfl ⟨⟨⟨⟨⟨lo, hi, ho, hG⟩, hr⟩, hs⟩, hh⟩, hB⟩ hK;have e := hG.2.2 (by simp);have o0 := (cOH ho 0).trans rfl;have o1 := (cOH ho 1).trans rfl;have r0 := (cOH hr 0).trans rfl;have r1 := (cOH hr 1).trans rfl;have p0 := fOH hr 0;have p1 := fOH hr 1;have zo := hL_ ho;have zr := hL_ hr;have hA := Lib.hid (And.intro ho (And.intro e (And.intro hr (And.intro hB hK))));clear ho hG hr hs hh hB hK e
    gi_wp2
    obtain ⟨ho, e, hr, hB, hK⟩ := hA.out;have hrD : D ≠ rb := fun q => by subst q; rw [hr] at hK; cases hK
    have hK2 : ((W.setCell ⟨rb, 0, none⟩ (.int .i64 lo)).setCell ⟨rb, 1, none⟩ (.int .i64 hi)).heap[D]? = some (.deferred (some [])) :=
      hSN (hSN hK (fun q => hrD q) _) (fun q => hrD q) _
    refine ⟨by simp, .inl ⟨_, _, rfl, run_takeDeferred hK2, ?_⟩⟩;refine ⟨_, sp_results2 (r := 6) (s := 7) rfl (W := _) (b := rb) (lo := lo) (hi := hi) ((World.putObj_heap_other (fun q => hrD q.symm)).trans (hS_ (hS_ hr 0 _) 1 _)) _ _ rfl rfl, lo, hi, rfl, e.1, e.2, ?_⟩;exact ((hB.setCell hge.2.2.2 _).setCell hge.2.2.2 _).trans (belowK_b (w := w) (Nat.le_refl _) _ D _ _ (by omega) hK2 rfl rfl)
  case stop =>
    rintro D c pre W _ _ h _;exact h.elim
theorem results3P {fn : Func} {t u v : Tmp} (h : fn.results = #[.tmp t, .tmp u, .tmp v]) (tmps : Array Value) (P : Program) (w : World) :
    (results fn tmps).run P w = .ok (.tuple #[tmps.getD t undef, tmps.getD u undef, tmps.getD v undef]) w := by
  simp [results, h]
theorem beset_any (At : Option Addr) (ct : Nat) (Aw : Option Addr) (cw : Nat) (Ai : Option Addr) (ci : Nat) (s : Shp) (i : Ic) (ch : Bool) (w : World) (R : ShR At Aw Ai s w) (h0 : shipE s = 0) (hi : IcOk i) :
    Calls Try.prog 6 #[.agg (shpV At ct Aw cw Ai ci s), .agg (justV i), .bool ch] w fun e w' => e = .returned (.tuple #[.bool (!makes s i ch 10), .bool (!makes s i ch 10), .int .i64 0]) ∧ Below w.heap.size w w' := by
  obtain ⟨W, hW⟩ : ∃ W, W = (w.alloc (.cells (shpV At ct Aw cw Ai ci s) 25)).alloc (.cells (justV i) 35) := ⟨_, rfl⟩;obtain ⟨sb, hsb⟩ : ∃ b, b = w.heap.size := ⟨_, rfl⟩;obtain ⟨cb, hcb⟩ : ∃ b, b = w.heap.size + 1 := ⟨_, rfl⟩;have O : Own w.heap.size w [.blk sb (.cells (shpV At ct Aw cw Ai ci s) 25), .blk cb (.cells (justV i) 35)] W := by
    have h := ((Own.start w).alloc (.cells (shpV At ct Aw cw Ai ci s) 25)).alloc (.cells (justV i) 35);rw [hW, hsb, hcb]; simpa using h
  have km := speeds_any At ct Aw cw Ai ci s i ch W (R.below O.bel) h0 hi;obtain ⟨m, hm⟩ : ∃ m, m = makes s i ch 10 := ⟨_, rfl⟩;unfold SpsPost at km;rw [← hm] at km ⊢;have HM := Lib.hid (And.intro km O);have s_ := O.heap 0 rfl;have c_ := O.heap 1 rfl;have s0 : W.cell? ⟨sb, 0, none⟩ = some _ := (cOH s_ 0).trans rfl;have s1 : W.cell? ⟨sb, 1, none⟩ = some _ := (cOH s_ 1).trans rfl;have s2 : W.cell? ⟨sb, 2, none⟩ = some _ := (cOH s_ 2).trans rfl;have s3 : W.cell? ⟨sb, 3, none⟩ = some _ := (cOH s_ 3).trans rfl;have s4 : W.cell? ⟨sb, 4, none⟩ = some _ := (cOH s_ 4).trans rfl;have s5 : W.cell? ⟨sb, 5, none⟩ = some _ := (cOH s_ 5).trans rfl;have s6 : W.cell? ⟨sb, 6, none⟩ = some _ := (cOH s_ 6).trans rfl;have s7 : W.cell? ⟨sb, 7, none⟩ = some _ := (cOH s_ 7).trans rfl;have s8 : W.cell? ⟨sb, 8, none⟩ = some _ := (cOH s_ 8).trans rfl;have s9 : W.cell? ⟨sb, 9, none⟩ = some _ := (cOH s_ 9).trans rfl;have s10 : W.cell? ⟨sb, 10, none⟩ = some _ := (cOH s_ 10).trans rfl;have k0 : W.cell? ⟨cb, 0, none⟩ = some _ := (cOH c_ 0).trans rfl;have k1 : W.cell? ⟨cb, 1, none⟩ = some _ := (cOH c_ 1).trans rfl;have k2 : W.cell? ⟨cb, 2, none⟩ = some _ := (cOH c_ 2).trans rfl;have k3 : W.cell? ⟨cb, 3, none⟩ = some _ := (cOH c_ 3).trans rfl;have k4 : W.cell? ⟨cb, 4, none⟩ = some _ := (cOH c_ 4).trans rfl;have k5 : W.cell? ⟨cb, 5, none⟩ = some _ := (cOH c_ 5).trans rfl;have k6 : W.cell? ⟨cb, 6, none⟩ = some _ := (cOH c_ 6).trans rfl;have k7 : W.cell? ⟨cb, 7, none⟩ = some _ := (cOH c_ 7).trans rfl;have zs := hL_ s_;have zc := hL_ c_;clear O km s_ c_ hm
  go_enter Try.func6, Try.ntmps6
  go_upto_region 1 with fail
  rw [← hW, ← hcb, ← hsb];clear hW hcb hsb;go_upto_region 4 with (go_at_call 15; refine HM.out.1.mono ?_; rintro e w1 ⟨lo, hi, rfl, q1, q2, b1⟩; have H1 := Lib.hid (And.intro q1 (And.intro q2 b1)); clear b1 q1 q2 s0 s1 s2 s3 s4 s5 s6 s7 s8 s9 s10 k0 k1 k2 k3 k4 k5 k6 k7 zs zc)
  obtain ⟨ob, hob⟩ : ∃ b, b = w1.heap.size := ⟨_, rfl⟩;obtain ⟨W2, hW2⟩ : ∃ W2, W2 = w1.alloc (.cells #[.int .i64 lo, .int .i64 hi] 33) := ⟨_, rfl⟩;have O2 : Own w.heap.size w [.blk sb (.cells (shpV At ct Aw cw Ai ci s) 25), .blk cb (.cells (justV i) 35), .blk ob (.cells #[.int .i64 lo, .int .i64 hi] 33)] W2 := by
    have h := (HM.out.2.below H1.out.2.2).alloc (.cells #[.int .i64 lo, .int .i64 hi] 33);rw [hW2, hob]; exact h
  have c_ := O2.heap 2 rfl;have k0 := (cOH c_ 0).trans rfl;have k1 := (cOH c_ 1).trans rfl;have zc := hL_ c_;have H2 := Lib.hid O2.bel;clear O2 c_;rw [← hW2, ← hob];clear hW2 hob;go_quiet (fail);go_wp2_with fail
  refine bodyPost_ret (results3P rfl _ _ _) rfl ⟨?_, below_drewN H2.out _⟩;have q1 := H1.out.1;have q2 := H1.out.2.1;cases m <;> simp at q1 q2 <;> simp [q1, q2]
end Go.Proofs.Ytalcinepeofmcaa
namespace Go.Proofs.Ytalcinepeofmcaa
open Go Go.RowKit Go.Lib Sp Pt
open Hu
theorem ship_row {p : Prt} {l : Pln} {s : Stt} (hr : runE p s l = 0) {j : Nat} (hj : j ≤ l.hours.toNat) : (traceV p s l)[j]? = some (stN p l s j).brash := by
  unfold traceV;rw [if_pos hr];unfold traceS;rw [List.getElem?_map, List.getElem?_range (by omega)]; rfl
theorem ship_rows {p : Prt} {l : Pln} {s : Stt} (hr : runE p s l = 0) : (traceV p s l).length = l.hours.toNat + 1 := by
  unfold traceV;rw [if_pos hr]; simp [traceS]
theorem LsR.belowS {w w' : World} {A : Option Addr} {n : Nat} {r : List LRow} (h : LsR w A n r) (hb : Below w.heap.size w w') : LsR w' A n r := ⟨h.1.below hb, fun x hx => (h.2 x hx).below hb⟩
theorem LsR.rowS {w : World} {A : Option Addr} {n : Nat} {rows : List LRow} {V : List (List Int)} (h : LsR w A n rows) (hV : rows.map (·.l) = V) {k : Nat} {y : List Int} (hy : V[k]? = some y) (hk : k < n) :
    ∃ b off B c, A = some ⟨b, off, none⟩ ∧ b < w.heap.size ∧ w.cell? ⟨b, off + k, none⟩ = some (.slice B y.length c) ∧ Rd w 1 B y.length (ints y) := by
  obtain ⟨b, off, e, hb, hc⟩ := h.1.2 (by omega);rw [← hV, List.getElem?_map] at hy;cases hr : rows[k]? with
  | none => rw [hr] at hy; cases hy
  | some r =>
    rw [hr] at hy;injection hy with hy
    have hy : r.l = y := hy;have := hc k r.v (by rw [List.getElem?_map, hr]; rfl);unfold LRow.v at this;have h2 := h.2 r (List.mem_of_getElem? hr);rw [hy] at this h2;exact ⟨b, off, r.A, r.c, e, hb, this, h2⟩
theorem ship_bd {p : Prt} {l : Pln} (hp : MdP p) (hl : MdL p l) {m : Int} (hm : 0 ≤ m ∧ m ≤ 1000000) {b : List Int} (hb : ∀ x ∈ b, 0 ≤ x ∧ x < 1000000) {k : Nat} (hk : k ≤ 43) (n : Int) : getI (stN p (setMost l m) (st0 p b) k).brash n ≤ 3000000 := by
  have h1 : brR 1000000 (st0 p b).brash := fun c => by
    show -1000000 ≤ getI b c ∧ getI b c ≤ 1000000;unfold getI;rw [List.getD_eq_getElem?_getD];cases e : b[c.toNat]? with
    | none => simp
    | some x => have := hb x (List.mem_of_getElem? e); simp only [Option.getD_some]; omega
  have := (stN_bd (val_of (most_checkL hp hl hm)) (by decide) h1 k n).2;omega
theorem thick_bd {h n k : Int} (hk : 0 ≤ k) : ∀ {L : List Swp} {t B : Int}, t ≤ B → 0 ≤ B → (∀ y ∈ L, 0 ≤ y.tugs) → L.foldl (thick1 h n k) t ≤ B
  | [], t, B, ht, _, _ => ht
  | y :: L, t, B, ht, hB, hy => by
    rw [List.foldl_cons];refine thick_bd hk ?_ hB (fun z hz => hy z (by simp [hz]));have := Int.mul_nonneg (hy y (by simp)) hk;unfold thick1;split <;> omega
structure TrC where
  A : Option Addr
  c : Nat
  rows : List LRow
structure ShpLaw (c : PoC) (b : List Int) (l0 : Pln) (m : Int) (h : ShC) (T : TrC) : Prop where
  hp : MdP c.p
  hl : MdL c.p l0
  el : c.l = setMost l0 m
  hm : 0 ≤ m ∧ m ≤ 400
  hlen : b.length = c.p.chs.length
  hb : ∀ x ∈ b, 0 ≤ x ∧ x < 1000000
  hr : runE c.p (st0 c.p b) (setMost l0 m) = 0
  ok : shipE h.s = 0
  grt : Grt (fun n => makes h.s (lvl n) true 10) 0 400 m
  tr : T.rows.map (·.l) = traceV c.p (st0 c.p b) (setMost l0 m)
structure ShpW (c : PoC) (h : ShC) (T : TrC) (N : Nat) (w : World) : Prop where
  E : PoE c w
  S : ShE h w
  R : LsR w T.A N T.rows
theorem ShpW.below {c : PoC} {h : ShC} {T : TrC} {N : Nat} {w w' : World} (H : ShpW c h T N w) (hb : Below w.heap.size w w') : ShpW c h T N w' := ⟨H.E.below hb, H.S.below hb, H.R.belowS hb⟩
theorem ShE.rd {h : ShC} {w : World} (E : ShE h w) (L : ShL h.s) : ShR h.At h.Aw h.Ai h.s w := ⟨E.rt, E.rw_, E.ri, by have := L.l1; omega, by have := L.l2; omega, by have := L.l3; omega⟩
theorem ShE.beset {h : ShC} {wr : World} (E : ShE h wr) (h0 : shipE h.s = 0) {t : Int} (ht : 0 ≤ t ∧ t ≤ 400) {z : Bool} (hz : z = !makes h.s (lvl t) true 10) :
    ∀ wx, Below wr.heap.size wr wx → Calls Try.prog 6 #[.agg (shpV h.At h.ct h.Aw h.cw h.Ai h.ci h.s), .agg (justV (lvl t)), .bool true] wx fun e w' => e = .returned (.tuple #[.bool z, .bool z, .int .i64 0]) ∧ Below wx.heap.size wx w' := fun wx hb => by
  have sok := shipE_ok h0;have L0 : ShL h.s := ⟨sok.1, sok.2.2.2.2.2.1, sok.2.2.2.2.2.2.1, sok.2.2.2.2.2.2.2.1, sok.2.2.1⟩;rw [hz];exact beset_any h.At h.ct h.Aw h.cw h.Ai h.ci h.s (lvl t) true wx ((E.below hb).rd L0) h0 (lvl_ok ht)
theorem swAt {c : PoC} {w : World} (E : PoE c w) {k : Nat} (hk : k < c.l.swps.length) : ∃ b off, c.As = some ⟨b, off, none⟩ ∧ b < w.heap.size ∧ w.cell? ⟨b, off + k * 3, none⟩ = some (.int .i64 c.l.swps[k].hour) ∧ w.cell? ⟨b, off + k * 3 + 1, none⟩ = some (.int .i64 c.l.swps[k].channel) ∧ w.cell? ⟨b, off + k * 3 + 2, none⟩ = some (.int .i64 c.l.swps[k].tugs) := by
  obtain ⟨b, off, e, hb, hc⟩ := E.LB.swps.2 (by omega);obtain ⟨g0, g1, g2⟩ := swcs_get hk;exact ⟨b, off, e, hb, hc _ _ g0, hc _ _ g1, hc _ _ g2⟩
end Go.Proofs.Ytalcinepeofmcaa
