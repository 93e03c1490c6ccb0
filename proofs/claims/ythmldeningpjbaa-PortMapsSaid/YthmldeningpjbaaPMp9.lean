/- A map whose elements are numbers, that a call keeps: what a key has; an entry that is made first and stored into later. No program is named here. -/
import Derived.Test.YthmldeningpjbaaPMp0
import Derived.WideKeyPair
import Derived.MapKept
import Derived.Test.YthmldeningpjbaaPMp3
import Derived.WalkKit
set_option linter.unusedVariables false
set_option linter.unusedSimpArgs false
namespace Go.Proofs.Ythmldeningpjbaa
open Go Go.RowKit Go.WideMaps

/-- block mb is a map of at most n entries; each key's number is what f says, 0 where there is none -/
def MapI (P : Program) (k : TypeId) (w : World) (mb n : Nat) (f : Value → Int) : Prop :=
  ∃ es clock, w.heap[mb]? = some (.map es clock) ∧ es.size ≤ n ∧ MapKept.Stamped es clock ∧ (∀ x ∈ es.toList, (∃ l, keyOf P k x.key = some l) ∧ x.val = .int .i64 (f x.key)) ∧
    ∀ key, (∀ x ∈ es.toList, x.key ≠ key) → f key = 0
/-- .. and the entry at key bears the stamp st -/
def MapIAt (P : Program) (k : TypeId) (w : World) (mb n : Nat) (f : Value → Int) (key : Value) (st : Nat) : Prop :=
  ∃ es clock, w.heap[mb]? = some (.map es clock) ∧ es.size ≤ n ∧ MapKept.Stamped es clock ∧ (∀ x ∈ es.toList, (∃ l, keyOf P k x.key = some l) ∧ x.val = .int .i64 (f x.key)) ∧
    (∀ key, (∀ x ∈ es.toList, x.key ≠ key) → f key = 0) ∧ ∃ (j : Nat) (e0 : MapEntry), es[j]? = some e0 ∧ e0.key = key ∧ e0.born = st

section
variable {P : Program} {k t e : TypeId} {w w' : World} {mb n : Nat} {f : Value → Int}
theorem MapI.lt (h : MapI P k w mb n f) : mb < w.heap.size := by obtain ⟨es, clock, hb, _⟩ := h; exact heap_lt hb
theorem MapIAt.lt {key : Value} {st : Nat} (h : MapIAt P k w mb n f key st) : mb < w.heap.size := by obtain ⟨es, clock, hb, _⟩ := h; exact heap_lt hb
theorem MapI.made (w : World) : MapI P k (w.alloc (.map #[] 0)) w.heap.size 0 (fun _ => 0) :=
  ⟨#[], 0, heap_alloc_new w _, Nat.le_refl _, MapKept.stamped_empty 0, by simp, fun _ _ => rfl⟩
theorem MapI.of_heap (h : MapI P k w mb n f) (hb : w'.heap[mb]? = w.heap[mb]?) : MapI P k w' mb n f := by
  obtain ⟨es, clock, h1, h2⟩ := h
  exact ⟨es, clock, hb.trans h1, h2⟩
theorem MapIAt.of_heap {key : Value} {st : Nat} (h : MapIAt P k w mb n f key st) (hb : w'.heap[mb]? = w.heap[mb]?) : MapIAt P k w' mb n f key st := by
  obtain ⟨es, clock, h1, h2⟩ := h
  exact ⟨es, clock, hb.trans h1, h2⟩
theorem MapI.mono (h : MapI P k w mb n f) {n' : Nat} (hn : n ≤ n') : MapI P k w mb n' f := by
  obtain ⟨es, clock, h1, h2, h3⟩ := h
  exact ⟨es, clock, h1, by omega, h3⟩
theorem MapI.congr (h : MapI P k w mb n f) {g : Value → Int} (hg : ∀ v, f v = g v) : MapI P k w mb n g := by
  obtain rfl : f = g := funext hg
  exact h
theorem MapIAt.mapI {key : Value} {st : Nat} (h : MapIAt P k w mb n f key st) : MapI P k w mb n f := by
  obtain ⟨es, clock, h1, h2, h3, h4, h5, _⟩ := h
  exact ⟨es, clock, h1, h2, h3, h4, h5⟩

variable (K : KeyLaw P k) (ht : P.underlying t = some (.map k e)) (hz : ∀ u : World, (zeroValue e).run P u = .ok (.int .i64 0) u)
include K ht hz
theorem MapI.look (h : MapI P k w mb n f) {key : Value} {kl : Lit} (hkey : keyOf P k key = some kl) : (Instr.lookup t (.map (some mb)) key false).run P w = .ok (.int .i64 (f key)) w := by
  obtain ⟨es, clock, hb, _, _, h4, h5⟩ := h
  rcases K.find w hkey es.toList (fun x hx => (h4 x hx).1) with ⟨h1, h2⟩ | ⟨j, e0, h1, h2, h3⟩
  · simp [Instr.lookup, run_underlying ht, MapKept.run_getObj_map hb, K.check w _ hkey, h1, hz, Result.andThen, h5 key h2]
  · have := (h4 e0 (List.mem_of_getElem? h2)).2
    rw [h3] at this
    simp [Instr.lookup, run_underlying ht, MapKept.run_getObj_map hb, K.check w _ hkey, h1, Result.andThen, this]

theorem MapI.entry (h : MapI P k w mb n f) {key : Value} {kl : Lit} (hkey : keyOf P k key = some kl) :
    ∃ (st : Nat) (w' : World), (Instr.mapEntry t (.map (some mb)) key).run P w = .ok (.tuple #[.int .i64 (f key), goInt st]) w' ∧ MapIAt P k w' mb (n + 1) f key st ∧ Keep [mb] w w' ∧ w'.heap.size = w.heap.size := by
  obtain ⟨es, clock, hb, hn, hs, h4, h5⟩ := h
  have kp : ∀ o : Obj, Keep [mb] w { w with heap := w.heap.setIfInBounds mb o } := fun o => ⟨rfl, rfl, rfl, by simp, fun i hi hne => by
    simp only [List.mem_singleton] at hne
    exact Array.getElem?_setIfInBounds_ne (fun e => hne e.symm)⟩
  have hh : ∀ o : Obj, ({ w with heap := w.heap.setIfInBounds mb o } : World).heap[mb]? = some o := fun o => (MapKept.heap_set hb).1
  rcases K.find w hkey es.toList (fun x hx => (h4 x hx).1) with ⟨h1, h2⟩ | ⟨j, e0, h1, h2, h3⟩
  · refine ⟨clock, _, ?_, ⟨es.push ⟨key, .int .i64 0, clock⟩, clock + 1, hh _, by simp; omega, MapKept.stamped_push hs h2, ?_, ?_, es.size, ⟨key, .int .i64 0, clock⟩, by simp, rfl, rfl⟩, kp _, by simp⟩
    · simp [Instr.mapEntry, run_underlying ht, MapKept.run_getObj_map hb, K.check w false hkey, h1, hz, MapKept.run_setObj_map _ hb, Result.andThen, h5 key h2]
    · intro x hx
      rw [Array.toList_push] at hx
      rcases List.mem_append.1 hx with hx | hx
      · exact h4 x hx
      · rw [List.mem_singleton.1 hx]
        exact ⟨⟨kl, hkey⟩, by rw [h5 key h2]⟩
    · intro key' hk'
      refine h5 key' fun x hx => hk' x ?_
      rw [Array.toList_push]
      exact List.mem_append_left _ hx
  · have hj : es[j]? = some e0 := by simpa using h2
    have hjl : j < es.size := (Array.getElem?_eq_some_iff.1 hj).1
    have hv := (h4 e0 (List.mem_of_getElem? h2)).2
    rw [h3] at hv
    have hsame : es.modify j (fun e => { e with key := key }) = es := by
      apply Array.ext_getElem?
      intro i
      rw [Array.getElem?_modify]
      by_cases e : j = i
      · subst e
        rw [if_pos rfl, hj]
        simp [← h3]
      · rw [if_neg e]
    refine ⟨e0.born, _, ?_, ⟨es, clock, hh _, by omega, hs, h4, h5, j, e0, hj, h3, rfl⟩, kp _, by simp⟩
    simp [Instr.mapEntry, run_underlying ht, MapKept.run_getObj_map hb, K.check w false hkey, h1, hj, h3, K.stays w hkey, hsame, MapKept.run_setObj_map _ hb, Result.andThen, hv]
omit K ht hz in
theorem MapIAt.store {key : Value} {st : Nat} (h : MapIAt P k w mb n f key st) (x : Int) (g : Value → Int) (hg : g key = x) (hg2 : ∀ v, v ≠ key → g v = f v) :
    ∃ w', (Instr.entryStore t (.map (some mb)) (goInt st) (.int .i64 x)).run P w = .ok () w' ∧ MapI P k w' mb n g ∧ Keep [mb] w w' ∧ w'.heap.size = w.heap.size := by
  obtain ⟨es, clock, hb, hn, hs, h4, h5, j, e0, hj, hk, rfl⟩ := h
  have hjl : j < es.size := (Array.getElem?_eq_some_iff.1 hj).1
  obtain ⟨s1, s2, s3⟩ := (MapKept.stamped_iff es clock).1 hs
  have hidx : es.findIdx? (fun e => ((e.born : Nat) : Int) == ((e0.born : Nat) : Int)) = some j := by
    have hfi : ∀ (l : List MapEntry), (l.map (·.born)).Nodup → ∀ {j : Nat} {e0 : MapEntry}, l[j]? = some e0 → l.findIdx? (fun e => ((e.born : Nat) : Int) == ((e0.born : Nat) : Int)) = some j := by
      intro l
      induction l with
      | nil => intro _ j e0 h; simp at h
      | cons a r ih =>
        intro hn j e0 h
        simp only [List.map_cons, List.nodup_cons] at hn
        cases j with
        | zero =>
          simp only [List.getElem?_cons_zero, Option.some.injEq] at h
          subst h
          simp [List.findIdx?_cons]
        | succ j =>
          simp only [List.getElem?_cons_succ] at h
          have hne : a.born ≠ e0.born := fun e1 => hn.1 (List.mem_map.2 ⟨e0, List.mem_of_getElem? h, e1.symm⟩)
          have hb : (((a.born : Nat) : Int) == ((e0.born : Nat) : Int)) = false := by
            simp only [beq_eq_false_iff_ne, ne_eq, Int.natCast_inj]
            exact hne
          rw [List.findIdx?_cons, hb]
          simp [ih hn.2 h]
    have := hfi es.toList s2 (j := j) (e0 := e0) (by simpa using hj)
    cases es
    simpa using this
  have hnew : ∀ y ∈ (es.modify j (fun e => { e with val := .int .i64 x })).toList, ∃ z ∈ es.toList, y.key = z.key ∧ y.val = .int .i64 (g z.key) := by
    intro y hy
    obtain ⟨i, hi⟩ := List.mem_iff_getElem?.1 hy
    rw [Array.getElem?_toList, Array.getElem?_modify] at hi
    by_cases e : j = i
    · subst e
      rw [if_pos rfl, hj] at hi
      simp only [Option.map_some, Option.some.injEq] at hi
      refine ⟨e0, List.mem_of_getElem? (i := j) (by simpa using hj), by rw [← hi], ?_⟩
      rw [← hi, hk, hg]
    · rw [if_neg e] at hi
      have hm : y ∈ es.toList := List.mem_of_getElem? (i := i) (by simpa using hi)
      refine ⟨y, hm, rfl, ?_⟩
      have hne : y.key ≠ key := by
        rw [← hk]
        have e1 : es.toList[j]? = some e0 := by simpa using hj
        have e2 : es.toList[i]? = some y := by simpa using hi
        obtain ⟨l1, g1⟩ := List.getElem?_eq_some_iff.1 e1
        obtain ⟨l2, g2⟩ := List.getElem?_eq_some_iff.1 e2
        rw [← g1, ← g2]
        rcases Nat.lt_or_ge i j with q | q
        · exact (List.pairwise_iff_getElem.1 s3 i j l2 l1 q)
        · exact Ne.symm (List.pairwise_iff_getElem.1 s3 j i l1 l2 (by omega))
      rw [hg2 _ hne]
      exact (h4 y hm).2
  refine ⟨{ w with heap := w.heap.setIfInBounds mb (.map (es.modify j (fun e => { e with val := .int .i64 x })) clock) }, ?_, ⟨es.modify j (fun e => { e with val := .int .i64 x }), clock, (MapKept.heap_set hb).1, by simpa using hn, ?_, ?_, ?_⟩, ⟨rfl, rfl, rfl, by simp, fun i hi hne => ?_⟩, by simp⟩
  · simp [Instr.entryStore, MapKept.run_getObj_map hb, asInt, asIntOf, goInt, hidx, MapKept.run_setObj_map _ hb, Result.andThen]
  · exact MapKept.stamped_modify hs j _ (fun _ _ => rfl) (fun _ _ _ => rfl)
  · intro y hy
    obtain ⟨z, hz, e1, e2⟩ := hnew y hy
    exact ⟨by rw [e1]; exact (h4 z hz).1, by rw [e2, e1]⟩
  · intro key' hk'
    have hm0 : e0 ∈ es.toList := List.mem_of_getElem? (i := j) (by simpa using hj)
    have hmap : ∀ z ∈ es.toList, ∃ y ∈ (es.modify j (fun e => { e with val := .int .i64 x })).toList, y.key = z.key := by
      intro z hz
      obtain ⟨i, hi⟩ := List.mem_iff_getElem?.1 hz
      by_cases e : j = i
      · subst e
        refine ⟨{ z with val := .int .i64 x }, List.mem_of_getElem? (i := j) ?_, rfl⟩
        rw [Array.getElem?_toList, Array.getElem?_modify, if_pos rfl]
        rw [Array.getElem?_toList] at hi
        rw [hi]; rfl
      · refine ⟨z, List.mem_of_getElem? (i := i) ?_, rfl⟩
        rw [Array.getElem?_toList, Array.getElem?_modify, if_neg e]
        simpa using hi
    have hno : ∀ z ∈ es.toList, z.key ≠ key' := fun z hz => by
      obtain ⟨y, hy, e1⟩ := hmap z hz
      rw [← e1]; exact hk' y hy
    have hne : key' ≠ key := fun e => hno e0 hm0 (by rw [hk, e])
    rw [hg2 _ hne]
    exact h5 key' hno
  · simp only [List.mem_singleton] at hne
    exact Array.getElem?_setIfInBounds_ne (fun e => hne e.symm)
end
end Go.Proofs.Ythmldeningpjbaa
/- As XRegion, for regions with guarded operations: an operation whose guard says no only puts undef. -/
namespace Go.Proofs.Ythmldeningpjbaa
open Go
set_option linter.unusedVariables false

def regionOkG (ops : List Oper) (n : Nat) : Bool :=
  (ops.filterMap (·.dst)).Nodup && (ops.filterMap (·.dst)).all (· < n) && ops.zipIdx.all (fun p => p.1.after.toList.all fun e => !Region.binds .any e || decide (e.on < p.2))
/-- what one operation owes, wanted or not -/
def GStep {σ : Type} (P : Program) (ops : List Oper) (Q : Exit → Act → World → Prop) (φ : σ → Nat → Value → World → Prop) (W : σ → (Nat → Bool) → World → Prop) (i : Nat) (o : Oper) (s : σ) (l : Nat → Bool) (a : Act) (w : World) : Prop :=
  if Region.wanted o (yielded ops.toArray a.tmps) = true then o.wp P a w (fun a' w' => ∃ s' v, a' = a.put o.dst v ∧ W s' (upd l i) w' ∧ (o.dst.isSome = true → φ s' i v w') ∧ (∀ j u, l j = true → φ s j u w → φ s' j u w')) Q
  else ∃ s' v, a.put o.dst undef = a.put o.dst v ∧ W s' (upd l i) w ∧ (o.dst.isSome = true → φ s' i v w) ∧ (∀ j u, l j = true → φ s j u w → φ s' j u w)

theorem wp_region_invG {σ : Type} {P : Program} {ops : List Oper} {Q : Exit → Act → World → Prop} {id : Nat} {a0 : Act} {w0 : World} (hm : P.follows .mixedOrders = true)
    (hok : regionOkG ops a0.tmps.size = true)
    (φ : σ → Nat → Value → World → Prop) (W : σ → (Nat → Bool) → World → Prop) (s0 : σ) (h0 : W s0 (fun _ => false) w0.drew)
    (hstep : ∀ i o, ops[i]? = some o → ∀ s l a w, l i = false → (∀ e ∈ o.after.toList, Region.binds .any e = true → l e.on = true) → W s l w → FrOk ops a0 (φ s) l a w →
      GStep P ops Q φ W i o s l a w)
    (hfin : ∀ s a w, W s (fun j => decide (j < ops.length)) w → FrOk ops a0 (φ s) (fun j => decide (j < ops.length)) a w → Q .normal a w) :
    (Code.region id ops.toArray true).wp P Q a0 w0 := by
  simp only [regionOkG, Bool.and_eq_true, decide_eq_true_eq] at hok
  obtain ⟨⟨hnd, hltB⟩, hgB⟩ := hok
  have hlt : ∀ (o : Oper) (d : Nat), o ∈ ops → o.dst = some d → d < a0.tmps.size := fun o d ho hd => by
    have := List.all_eq_true.1 hltB d (List.mem_filterMap.2 ⟨o, ho, hd⟩)
    simpa using this
  have hg : ∀ i o, ops[i]? = some o → True ∧ ∀ e ∈ o.after.toList, Region.binds .any e = true → e.on < i := fun i o ho => by
    have := List.all_eq_true.1 hgB (o, i) (List.mem_zipIdx_iff_getElem?.2 ho)
    simp only at this
    refine ⟨trivial, fun e he hb => ?_⟩
    have h2 := List.all_eq_true.1 this e he
    simpa [hb] using h2
  have hsz : ops.toArray.size = ops.length := by simp
  -- all have been carried out where none may come up
  have hall : ∀ listed : Array Bool, listed.size = ops.length → Region.ready .any ops.toArray listed = [] → ∀ n, ∀ j, j < n → j < ops.length → listed.getD j false = true := by
    intro listed hls hr n
    induction n with
    | zero => intro j hj; omega
    | succ n ih =>
      intro j hj hjl
      by_cases hjn : j < n
      · exact ih j hjn hjl
      · obtain rfl : j = n := by omega
        cases hl : listed.getD j false with
        | true => rfl
        | false =>
          exfalso
          have hl' : listed.getD j true = false ∨ listed.size ≤ j := by
            rcases Nat.lt_or_ge j listed.size with h | h
            · left; simp [h] at hl ⊢; exact hl
            · exact .inr h
          have ho : ops[j]? = some ops[j] := List.getElem?_eq_getElem hjl
          rcases hl' with hl' | hl'
          · have : j ∈ Region.ready .any ops.toArray listed := mem_ready.2 ⟨hl', ops[j], by simp [hjl], fun e he hb => ih e.on ((hg j _ ho).2 e (by simpa using he) hb) (by have := (hg j _ ho).2 e (by simpa using he) hb; omega)⟩
            rw [hr] at this
            cases this
          · omega
  have main : ∀ fuel (listed : Array Bool) (a : Act) (w : World) (s : σ), listed.size = ops.length → cntFalse (fun j => listed.getD j false) ops.length ≤ fuel → W s (fun j => listed.getD j false) w → FrOk ops a0 (φ s) (fun j => listed.getD j false) a w →
      wpAny P .any ops.toArray Q fuel listed a w := by
    intro fuel
    have hend : ∀ (listed : Array Bool) (a : Act) (w : World) (s : σ), listed.size = ops.length → (∀ j, j < ops.length → listed.getD j false = true) → W s (fun j => listed.getD j false) w → FrOk ops a0 (φ s) (fun j => listed.getD j false) a w → Q .normal a w := by
      intro listed a w s hs hl hW hF
      have he : (fun j => listed.getD j false) = fun j => decide (j < ops.length) := by
        funext j
        by_cases hj : j < ops.length
        · rw [hl j hj]; simp [hj]
        · simp [hj, hs]
      rw [he] at hW hF
      exact hfin s a w hW hF
    induction fuel with
    | zero =>
      intro listed a w s hs hc hW hF
      have hl := cntFalse_zero ops.length (Nat.le_zero.1 hc)
      refine ⟨?_, hend listed a w s hs hl hW hF⟩
      apply List.eq_nil_iff_forall_not_mem.2
      intro i hi
      obtain ⟨h1, o, ho, _⟩ := mem_ready.1 hi
      have hil : i < ops.length := by simpa using (Array.getElem?_eq_some_iff.1 ho).1
      have h2 := hl i hil
      have : i < listed.size := by omega
      simp [this] at h1 h2
      rw [h2] at h1
      cases h1
    | succ fuel ih =>
      intro listed a w s hs hc hW hF
      refine ⟨fun hr => hend listed a w s hs (fun j hj => hall listed hs hr (j + 1) j (by omega) hj) hW hF, fun i hi => ?_⟩
      obtain ⟨h1, o, ho, hdep⟩ := mem_ready.1 hi
      have hil : i < ops.length := by simpa using (Array.getElem?_eq_some_iff.1 ho).1
      have ho' : ops[i]? = some o := by rw [← ho]; simp
      have hli : i < listed.size := by omega
      have hl0 : listed.getD i false = false := by simp [hli] at h1 ⊢; exact h1
      have hst := hstep i o ho' s (fun j => listed.getD j false) a w hl0 (fun e he hb => hdep e (by simpa using he) hb) hW hF
      unfold wpOp
      rw [ho]
      have key : ∀ a' w', (∃ s' v, a' = a.put o.dst v ∧ W s' (upd (fun j => listed.getD j false) i) w' ∧ (o.dst.isSome = true → φ s' i v w') ∧ (∀ j u, (fun j => listed.getD j false) j = true → φ s j u w → φ s' j u w')) → wpAny P .any ops.toArray Q fuel (listed.setIfInBounds i true) a' w' := ?_
      · unfold GStep at hst
        simp only
        by_cases hw : Region.wanted o (yielded ops.toArray a.tmps) = true
        · rw [if_pos hw] at hst ⊢
          exact .inl (Oper.wp_mono key hst)
        · rw [if_neg hw] at hst ⊢
          exact key _ _ hst
      rintro a' w' ⟨s', v, rfl, hW', hφ, hstab⟩
      have hupd : (fun j => (listed.setIfInBounds i true).getD j false) = upd (fun j => listed.getD j false) i := by
        funext j
        simp only [upd]
        split
        · rename_i hj; subst hj; simp [hli]
        · rename_i hj; rw [getD_set_ne false (Ne.symm hj)]
      have hcl : ∀ j o', upd (fun j => listed.getD j false) i j = true → ops[j]? = some o' → ∀ e ∈ o'.after.toList, Region.binds .any e = true → upd (fun j => listed.getD j false) i e.on = true := by
        intro j o' hj ho'' e he hb
        have hold : (listed.getD e.on false) = true → upd (fun j => listed.getD j false) i e.on = true := fun h => by simp only [upd]; split <;> first | rfl | exact h
        by_cases hji : j = i
        · subst hji
          rw [ho'] at ho''
          injection ho'' with e1
          subst e1
          exact hold (hdep e (by simpa using he) hb)
        · have hj' : listed.getD j false = true := by simpa [upd, hji] using hj
          exact hold (hF.closed j o' hj' ho'' e he hb)
      have hF' : FrOk ops a0 (φ s') (upd (fun j => listed.getD j false) i) (a.put o.dst v) w' := by
        cases hd : o.dst with
        | none =>
          refine ⟨hF.defers, hF.size, fun t ht => hF.other t (fun j o' hj hd' => by have := ht j o' hj hd'; simp only [upd] at this; split at this <;> first | exact this | cases this), fun j o' d hj ho'' hd' => ?_, hcl⟩
          have hji : j ≠ i := by
            rintro rfl
            rw [ho'] at ho''
            injection ho'' with e
            rw [← e, hd] at hd'
            cases hd'
          have hj' : listed.getD j false = true := by simpa [upd, hji] using hj
          obtain ⟨u, hu, hp⟩ := hF.vals j o' d hj' ho'' hd'
          exact ⟨u, hu, hstab j u hj' hp⟩
        | some d0 =>
          refine ⟨hF.defers, by simp [Act.put, hF.size], fun t ht => ?_, fun j o' d hj ho'' hd' => ?_, hcl⟩
          · have : d0 ≠ t := fun e => by
              have := ht i o ho' (by rw [hd, e])
              simp [upd] at this
            simp only [Act.put]
            rw [Array.getElem?_setIfInBounds_ne this]
            exact hF.other t (fun j o' hj hd' => by have := ht j o' hj hd'; simp only [upd] at this; split at this <;> first | exact this | cases this)
          · by_cases hji : j = i
            · subst hji
              rw [ho'] at ho''
              injection ho'' with e
              subst e
              rw [hd] at hd'
              injection hd' with e
              subst e
              have hlt' : d0 < a.tmps.size := by rw [hF.size]; exact hlt o d0 (List.mem_of_getElem? ho') hd
              exact ⟨v, by simp [Act.put, hlt'], hφ (by rw [hd]; rfl)⟩
            · have hj' : listed.getD j false = true := by simpa [upd, hji] using hj
              obtain ⟨u, hu, hp⟩ := hF.vals j o' d hj' ho'' hd'
              have hne : d0 ≠ d := by
                rintro rfl
                exact hji (nodup_dst hnd ho'' ho' hd' hd)
              refine ⟨u, ?_, hstab j u hj' hp⟩
              simp only [Act.put]
              rw [Array.getElem?_setIfInBounds_ne hne]
              exact hu
      refine ih _ _ _ s' (by simp [hs]) ?_ (by rw [hupd]; exact hW') (by rw [hupd]; exact hF')
      rw [hupd]
      have := cntFalse_upd (f := fun j => listed.getD j false) hl0 ops.length hil
      omega
  refine wp_region_any hm ?_
  rw [hsz]
  have hf : (fun j => (Array.replicate ops.length false).getD j false) = fun _ => false := by
    funext j
    rcases Nat.lt_or_ge j ops.length with h | h <;> simp [h]
  refine main ops.length _ a0 w0.drew s0 (by simp) (cntFalse_le _ _) (by rw [hf]; exact h0) ?_
  exact ⟨rfl, rfl, fun _ _ => rfl, fun j o d hj => (by rw [congrFun hf j] at hj; cases hj), fun j o hj => (by rw [congrFun hf j] at hj; cases hj)⟩

def StepOkG {σ : Type} (P : Program) (ops : List Oper) (Q : Exit → Act → World → Prop) (a0 : Act) (φ : σ → Nat → Value → World → Prop) (W : σ → (Nat → Bool) → World → Prop) (i : Nat) (o : Oper) : Prop :=
  ∀ s l a w, l i = false → (∀ e ∈ o.after.toList, Region.binds .any e = true → l e.on = true) → W s l w → FrOk ops a0 (φ s) l a w → GStep P ops Q φ W i o s l a w
theorem wp_region_stepsG {σ : Type} {P : Program} {ops : List Oper} {Q : Exit → Act → World → Prop} {id : Nat} {a0 : Act} {w0 : World} (hm : P.follows .mixedOrders = true)
    (hok : regionOkG ops a0.tmps.size = true)
    (φ : σ → Nat → Value → World → Prop) (W : σ → (Nat → Bool) → World → Prop) (s0 : σ) (h0 : W s0 (fun _ => false) w0.drew)
    (hstep : AllFrom (StepOkG P ops Q a0 φ W) 0 ops)
    (hfin : ∀ s a w, W s (fun j => decide (j < ops.length)) w → FrOk ops a0 (φ s) (fun j => decide (j < ops.length)) a w → Q .normal a w) :
    (Code.region id ops.toArray true).wp P Q a0 w0 :=
  wp_region_invG hm hok φ W s0 h0 (fun i o ho => by have := allFrom_get hstep i o ho; rwa [Nat.zero_add] at this) hfin
/-- an operation without a guard -/
theorem stepG_plain {σ : Type} {P : Program} {ops : List Oper} {Q : Exit → Act → World → Prop} {a0 : Act} {φ : σ → Nat → Value → World → Prop} {W : σ → (Nat → Bool) → World → Prop} {i : Nat} {o : Oper} (hg : o.guard = none) (h : StepOk P ops Q a0 φ W i o) : StepOkG P ops Q a0 φ W i o := by
  intro s l a w hl hd hW hF
  unfold GStep
  rw [if_pos (by simp [Region.wanted, hg])]
  exact h s l a w hl hd hW hF
/-- a guarded operation: what it owes where its guard says yes, and that nothing is lost where it says no -/
theorem stepG_guard {σ : Type} {P : Program} {ops : List Oper} {Q : Exit → Act → World → Prop} {a0 : Act} {φ : σ → Nat → Value → World → Prop} {W : σ → (Nat → Bool) → World → Prop} {i : Nat} {o : Oper}
    (hy : ∀ s l a w, l i = false → (∀ e ∈ o.after.toList, Region.binds .any e = true → l e.on = true) → W s l w → FrOk ops a0 (φ s) l a w → Region.wanted o (yielded ops.toArray a.tmps) = true →
      o.wp P a w (fun a' w' => ∃ s' v, a' = a.put o.dst v ∧ W s' (upd l i) w' ∧ (o.dst.isSome = true → φ s' i v w') ∧ (∀ j u, l j = true → φ s j u w → φ s' j u w')) Q)
    (hn : ∀ s l a w, l i = false → (∀ e ∈ o.after.toList, Region.binds .any e = true → l e.on = true) → W s l w → FrOk ops a0 (φ s) l a w → Region.wanted o (yielded ops.toArray a.tmps) = false → W s (upd l i) w ∧ φ s i undef w) : StepOkG P ops Q a0 φ W i o := by
  intro s l a w hl hd hW hF
  unfold GStep
  by_cases hw : Region.wanted o (yielded ops.toArray a.tmps) = true
  · rw [if_pos hw]; exact hy s l a w hl hd hW hF hw
  · rw [if_neg hw]
    obtain ⟨h1, h2⟩ := hn s l a w hl hd hW hF (by simpa using hw)
    exact ⟨s, undef, rfl, h1, fun _ => h2, fun _ _ _ h => h⟩
end Go.Proofs.Ythmldeningpjbaa
/- Guards that are decided: a guarded operation that is carried out, or that is not. -/
namespace Go.Proofs.Ythmldeningpjbaa
open Go
set_option linter.unusedVariables false

section
variable {σ : Type} {P : Program} {ops : List Oper} {Q : Exit → Act → World → Prop} {a0 : Act} {φ : σ → Nat → Value → World → Prop} {W : σ → (Nat → Bool) → World → Prop} {i : Nat} {o : Oper}
theorem wanted_eq {φ : Nat → Value → World → Prop} {l : Nat → Bool} {a : Act} {w : World} (hF : FrOk ops a0 φ l a w) {g d : Nat} {b z : Bool} (ho : o.guard = some (g, b)) (hd : (ops[g]?).bind (·.dst) = some d) (hl : l g = true) (hφ : ∀ v, φ g v w → v = .bool z) :
    Region.wanted o (yielded ops.toArray a.tmps) = (z == b) := by
  cases hg : ops[g]? with
  | none => rw [hg] at hd; cases hd
  | some og =>
    rw [hg] at hd
    obtain ⟨v, hv, hp⟩ := hF.vals g og d hl hg hd
    rw [hφ v hp] at hv
    have hd' : og.dst = some d := hd
    simp [Region.wanted, ho, yielded, hg, hd', hv]
theorem stepG_yes (h : StepOk P ops Q a0 φ W i o) (hw : ∀ (s : σ) (l : Nat → Bool) (a : Act) (w : World), (∀ e ∈ o.after.toList, Region.binds .any e = true → l e.on = true) → FrOk ops a0 (φ s) l a w → Region.wanted o (yielded ops.toArray a.tmps) = true) : StepOkG P ops Q a0 φ W i o :=
  stepG_guard (fun s l a w hl hd hW hF _ => h s l a w hl hd hW hF) (fun s l a w hl hd hW hF hn => by rw [hw s l a w hd hF] at hn; cases hn)
theorem stepG_no (h : ∀ (s : σ) (l : Nat → Bool) (a : Act) (w : World), l i = false → W s l w → W s (upd l i) w ∧ φ s i undef w) (hw : ∀ (s : σ) (l : Nat → Bool) (a : Act) (w : World), (∀ e ∈ o.after.toList, Region.binds .any e = true → l e.on = true) → FrOk ops a0 (φ s) l a w → Region.wanted o (yielded ops.toArray a.tmps) = false) : StepOkG P ops Q a0 φ W i o :=
  stepG_guard (fun s l a w hl hd hW hF hn => by rw [hw s l a w hd hF] at hn; cases hn) (fun s l a w hl hd hW hF _ => h s l a w hl hW)
end
end Go.Proofs.Ythmldeningpjbaa
/- The loops of a function's text, in its order: for a loop's round as a theorem of its own. -/
namespace Go.Proofs.Ythmldeningpjbaa
open Go

def loopsOf : Code → List Code
  | .loop c => c :: loopsOf c
  | .seq a b => loopsOf a ++ loopsOf b
  | .block _ c => loopsOf c
  | .scope c => loopsOf c
  | .cond _ a b => loopsOf a ++ loopsOf b
  | _ => []
noncomputable def loopBody (f : Func) (i : Nat) : Code := ((loopsOf (f.body.getD .skip))[i]?).getD .skip
end Go.Proofs.Ythmldeningpjbaa
