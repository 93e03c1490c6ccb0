import Derived.WalkKit
import Derived.WalkSpells
import Derived.WalkLawsBesides
import Derived.Lib.Hide
import Derived.Laws.OwnMore
import Derived.Below
import Derived.Maps.AppendAt
import Derived.BigQuiet
import Derived.BigRegion
import Derived.Deep.QuietTactic
import Derived.Deep.RegionLaw
import Derived.Deep.RegionWith
import Derived.Deep.DeepCutAuto
import Derived.Deep.LoopGhost
import Derived.Deep.DeepFit
import Derived.Deep.Draws
import Derived.Deep.AppendLies
import Derived.Deep.CutBlock
import Derived.Deep.RegionLawGrows
import Derived.Test.YtalcinepeofmcaaRows
import Derived.ProofKit
import Derived.OpenShut
import Derived.WideKeyArgs
import Derived.ChangeSame
import Derived.SizedLaws
import Derived.Test.YtalcinepeofmcaaProg
set_option linter.unusedVariables false
set_option linter.unusedSimpArgs false
set_option maxRecDepth 100000
set_option maxHeartbeats 40000000
namespace Go.Proofs.Ytalcinepeofmcaa
open Go Go.RowKit
def Rd (w : World) (size : Nat) (A : Option Addr) (n : Nat) (xs : List Value) : Prop :=
  xs.length = n * size ∧ (0 < n → ∃ b off, A = some ⟨b, off, none⟩ ∧ b < w.heap.size ∧ ∀ j u, xs[j]? = some u → w.cell? ⟨b, off + j, none⟩ = some u)
section
variable {w w' : World} {size n : Nat} {A : Option Addr} {xs : List Value}
theorem Rd.nil (w : World) (size : Nat) (A : Option Addr) : Rd w size A 0 [] := ⟨by simp, fun h => absurd h (by omega)⟩
theorem Rd.below (h : Rd w size A n xs) (hb : Below w.heap.size w w') : Rd w' size A n xs := by
  refine ⟨h.1, fun hn => ?_⟩;obtain ⟨b, off, e, hl, hc⟩ := h.2 hn;exact ⟨b, off, e, Nat.lt_of_lt_of_le hl hb.size, fun j u hu => (hb.cell (p := ⟨b, off + j, none⟩) hl).trans (hc j u hu)⟩
theorem Rd.one (h : Rd w 1 A n xs) {k : Nat} (hk : k < n) : ∃ b off u, A = some ⟨b, off, none⟩ ∧ b < w.heap.size ∧ xs[k]? = some u ∧ w.cell? ⟨b, off + k, none⟩ = some u := by
  obtain ⟨b, off, e, hl, hc⟩ := h.2 (by omega);have hx : k < xs.length := by have := h.1; omega
  exact ⟨b, off, xs[k], e, hl, List.getElem?_eq_getElem hx, hc k _ (List.getElem?_eq_getElem hx)⟩
end
structure Keep (S : List Nat) (w w' : World) : Prop where
  os : w'.os = w.os
  tape : w'.tape = w.tape
  output : w'.output = w.output
  size : w.heap.size ≤ w'.heap.size
  block : ∀ k, k < w.heap.size → k ∉ S → w'.heap[k]? = w.heap[k]?
section
variable {S S' : List Nat} {w w' w'' : World}
theorem Keep.refl (S : List Nat) (w : World) : Keep S w w := ⟨rfl, rfl, rfl, Nat.le_refl _, fun _ _ _ => rfl⟩
theorem Keep.trans (h : Keep S w w') (k : Keep S' w' w'') (hs : ∀ x ∈ S', x ∈ S ∨ w.heap.size ≤ x) : Keep S w w'' :=
  ⟨k.os.trans h.os, k.tape.trans h.tape, k.output.trans h.output, Nat.le_trans h.size k.size, fun i hi hn =>
    (k.block i (Nat.lt_of_lt_of_le hi h.size) (fun hm => by rcases hs i hm with h1 | h1; exact hn h1; omega)).trans (h.block i hi hn)⟩
theorem Keep.mono (h : Keep S w w') (hs : ∀ x ∈ S, x ∈ S' ∨ w.heap.size ≤ x) : Keep S' w w' :=
  ⟨h.os, h.tape, h.output, h.size, fun i hi hn => h.block i hi (fun hm => by rcases hs i hm with h1 | h1; exact hn h1; omega)⟩
theorem Keep.below (h : Keep S w w') {B : Nat} (hB : B ≤ w.heap.size) (hs : ∀ x ∈ S, B ≤ x) : Below B w w' :=
  ⟨h.os, h.tape, h.output, h.size, fun i hi => h.block i (by omega) (fun hm => by have := hs i hm; omega)⟩
theorem Keep.of_below (h : Below w.heap.size w w') : Keep S w w' := ⟨h.os, h.tape, h.output, h.size, fun i hi _ => h.block i hi⟩
theorem Keep.drew (h : Keep S w w') : Keep S w w'.drew := ⟨h.os, h.tape, h.output, h.size, h.block⟩
theorem Keep.drewN (h : Keep S w w') (n : Nat) : Keep S w (w'.drewN n) := ⟨h.os, h.tape, h.output, h.size, h.block⟩
theorem Keep.alloc (h : Keep S w w') (o : Obj) : Keep S w (w'.alloc o) :=
  ⟨h.os, h.tape, h.output, by have := h.size; simp; omega, fun i hi hn => by rw [Below.heap_alloc _ _ _ (by have := h.size; omega)]; exact h.block i hi hn⟩
theorem Keep.setCell (h : Keep S w w') {p : Addr} (hp : p.block ∈ S ∨ w.heap.size ≤ p.block) (u : Value) : Keep S w (w'.setCell p u) :=
  ⟨h.os, h.tape, h.output, by have := h.size; simpa [World.setCell] using this, fun i hi hn => by
    rw [Below.heap_setCell _ _ _ _ (fun e => by subst e; rcases hp with h1 | h1; exact hn h1; omega)]; exact h.block i hi hn⟩
end
theorem hS_ {w : World} {g : Nat} {cs : Array Value} {t : TypeId} {fr : Nat × Nat} (h : w.heap[g]? = some (.cells cs t fr)) (i : Nat) (u : Value) :
    (w.setCell ⟨g, i, none⟩ u).heap[g]? = some (.cells (cs.setIfInBounds i u) t fr) := by
  simp [World.setCell, Array.getElem?_modify, h]
theorem hSN {w : World} {g : Nat} {o : Option Obj} (h : w.heap[g]? = o) {p : Addr} (hp : g ≠ p.block) (u : Value) : (w.setCell p u).heap[g]? = o :=
  (Below.heap_setCell w p u g hp).trans h
theorem hL_ {w : World} {g : Nat} {o : Obj} (h : w.heap[g]? = some o) : g < w.heap.size := (Array.getElem?_eq_some_iff.1 h).1
theorem hA_ {w : World} {g : Nat} {o : Obj} (h : w.heap[g]? = some o) (o' : Obj) : (w.alloc o').heap[g]? = some o := (Below.heap_alloc w o' g (hL_ h)).trans h
theorem fOH {w : World} {g : Nat} {cs : Array Value} {t : TypeId} (h : w.heap[g]? = some (.cells cs t (0, 0))) (i : Nat) : w.frozen? ⟨g, i, none⟩ = false := by simp [World.frozen?, h]
theorem cOH {w : World} {g : Nat} {cs : Array Value} {t : TypeId} {fr : Nat × Nat} (h : w.heap[g]? = some (.cells cs t fr)) (i : Nat) : w.cell? ⟨g, i, none⟩ = cs[i]? := cell_of_row w g i cs t fr h
def OwnA (w : World) (e : TypeId) (A : Option Addr) (n c : Nat) (xs : List Value) (fp : List Nat) : Prop :=
  xs.length = n ∧ ((A = none ∧ n = 0 ∧ c = 0 ∧ fp = []) ∨
    ∃ g off cur, A = some ⟨g, off, none⟩ ∧ fp = [g] ∧ w.heap[g]? = some (.cells cur e (0, 0)) ∧ n ≤ c ∧ c ≤ 9223372036854775807 ∧ off + c = cur.size ∧ ∀ j u, xs[j]? = some u → cur[off + j]? = some u)
section
variable {w w' : World} {e : TypeId} {A : Option Addr} {n c : Nat} {xs : List Value} {fp : List Nat}
theorem OwnA.keepS {S : List Nat} (h : OwnA w e A n c xs fp) (hk : Keep S w w') (hd : ∀ g ∈ fp, g ∉ S) : OwnA w' e A n c xs fp := by
  refine ⟨h.1, ?_⟩;rcases h.2 with h0 | ⟨g, off, cur, rfl, rfl, hh, r⟩
  · exact .inl h0
  · exact .inr ⟨g, off, cur, rfl, rfl, (hk.block g (hL_ hh) (hd g (by simp))).trans hh, r⟩
theorem OwnA.alloc (h : OwnA w e A n c xs fp) (o : Obj) : OwnA (w.alloc o) e A n c xs fp := h.keepS ((Keep.refl [] w).alloc o) (by simp)
theorem OwnA.drewN (h : OwnA w e A n c xs fp) (k : Nat) : OwnA (w.drewN k) e A n c xs fp := h
theorem OwnA.nil (w : World) (e : TypeId) : OwnA w e none 0 0 [] [] := ⟨rfl, .inl ⟨rfl, rfl, rfl, rfl⟩⟩
theorem OwnA.some_ (h : OwnA w e A n c xs fp) (hn : 0 < n) : ∃ g off, A = some ⟨g, off, none⟩ ∧ fp = [g] ∧ g < w.heap.size ∧ (∀ j u, xs[j]? = some u → w.cell? ⟨g, off + j, none⟩ = some u) ∧ (∀ j, w.frozen? ⟨g, j, none⟩ = false) := by
  rcases h.2 with ⟨_, h0, _⟩ | ⟨g, off, cur, rfl, rfl, hh, h1, h2, h3, h4⟩
  · omega
  · exact ⟨g, off, rfl, rfl, hL_ hh, fun j u hu => (cOH hh _).trans (h4 j u hu), fun j => fOH hh j⟩
theorem OwnA.rd (h : OwnA w e A n c xs fp) : Rd w 1 A n xs := by
  refine ⟨by rw [h.1]; omega, fun hn => ?_⟩;obtain ⟨g, off, e, _, hl, hc, _⟩ := h.some_ hn;exact ⟨g, off, e, hl, hc⟩
variable {P : Program}
theorem setCells_one (w : World) (b off : Nat) (u : Value) : w.setCells b off [u] = w.setCell ⟨b, off, none⟩ u := by
  simp [World.setCells]
theorem run_append_A (t ty : TypeId) (i : TypeInfo) (z : Value) (bytes : Nat) (ht : P.underlying t = some (.slice e)) (hi : P.info? e = some i) (hz : i.zero = some z)
    (hsize : i.size = 1) (hby : i.bytes = bytes) (hzs : z.cells.size = 1) (hown : OwnA w e A n c xs fp) (ad : Addr) (u : Value) (hu : w.cell? ad = some u) (h1 : u.oneCell' = true)
    (hn : n + 1 ≤ 1000000000000) (hbytes : bytes ≤ 100) :
    ∃ g off c' w', (Builtin.append_ #[t, t] ty #[.slice A n c, .slice (some ad) 1 1]).run P w = .ok (.slice (some ⟨g, off, none⟩) (n + 1) c') w' ∧
      OwnA w' e (some ⟨g, off, none⟩) (n + 1) c' (xs ++ [u]) [g] ∧ (g ∈ fp ∨ w.heap.size = g) ∧ g < w'.heap.size ∧ Keep fp w w' := by
  subst hby;have hb1 : (n + 1) * i.bytes ≤ 140737488355328 := Nat.le_trans (Nat.mul_le_mul hn hbytes) (by decide);have hnews : ∀ j v, [u][j]? = some v → w.cell? (ad.add j) = some v := by
    intro j v hv;cases j with
    | zero => simpa [Addr.add] using (by simpa using hv : u = v) ▸ hu
    | succ j => simp at hv
  have hl : [u].length = 1 * i.size := by simp [hsize]
  have h1' : ∀ v ∈ [u], v.oneCell' = true := by simpa using h1
  have hmx : n + 1 ≤ maxLen := by simp only [maxLen]; omega
  have grown : ∀ (old : Nat) (olds : List Value), olds = xs →
      OwnA (w.drew.alloc (.cells (olds.toArray ++ [u].toArray ++ Builtin.zeroCells z.cells (grownCap w (n + 1) old e - (n + 1))) e)) e (some ⟨w.heap.size, 0, none⟩) (n + 1) (grownCap w (n + 1) old e) (xs ++ [u]) [w.heap.size] := by
    rintro old olds rfl;have hge := grownCap_ge w (n + 1) old e;have hcm : grownCap w (n + 1) old e ≤ maxLen := grownCap_le_maxLen w (n + 1) old e hmx;simp only [maxLen] at hcm;refine ⟨by simp [hown.1], .inr ⟨_, 0, _, rfl, rfl, heap_alloc_new w.drew _, hge, hcm, ?_, ?_⟩⟩
    · simp only [Array.size_append, List.size_toArray, size_zeroCells, hzs, hown.1, List.length_singleton];omega
    · intro j v hv;have hlt : j < (olds ++ [u]).length := (List.getElem?_eq_some_iff.1 hv).1;rw [Nat.zero_add, Array.getElem?_append_left (by simpa using hlt)];simpa using hv
  have hkeep : ∀ o : Obj, Keep fp w (w.drew.alloc o) := fun o => ((Keep.refl fp w).drew).alloc o;rcases hown.2 with ⟨rfl, rfl, rfl, rfl⟩ | ⟨g, off, cur, rfl, rfl, hh, hnc, hcm, hcs, hat⟩
  · have hx : xs = [] := List.eq_nil_of_length_eq_zero hown.1;subst hx;have hr := run_append_nil (P := P) w t ty e i z ht hi hz ad 1 1 [u] hl hnews (by omega) (by omega) (by simp at hb1; omega);have hg := grown 0 [] rfl;simp only [Nat.zero_add, List.nil_append, Array.empty_append] at hg ⊢;exact ⟨_, 0, _, _, hr, hg, .inr rfl, by simp, hkeep _⟩
  · by_cases hroom : n + 1 ≤ c
    · have hlt : off + n < cur.size := by omega
      have hr := run_append_room_cells (P := P) w t ty e i ht hi g off n c ad 1 1 [u] hl hnews h1' hroom (by
        intro j hj;obtain rfl : j = 0 := by simpa using hj
        have hlt' : off + n * i.size + 0 < cur.size := by rw [hsize]; omega
        rw [cOH hh, Array.getElem?_eq_getElem hlt'];rfl) (by intro j hj; exact fOH hh _)
      refine ⟨g, off, c, _, hr, ⟨by simp [hown.1], .inr ⟨g, off, cur.setIfInBounds (off + n) u, rfl, rfl, ?_, hroom, hcm, by simp [hcs], ?_⟩⟩, .inl (by simp), ?_, ?_⟩
      · rw [setCells_one, hsize, Nat.mul_one];exact hS_ hh _ _
      · intro j v hv;rw [List.getElem?_append] at hv;split at hv
        · rename_i hj
          rw [Array.getElem?_setIfInBounds_ne (by have := hown.1; omega)];exact hat j v hv
        · rename_i hj
          have hj2 : j = n := by
            have h5 := (List.getElem?_eq_some_iff.1 hv).1;have h6 := hown.1;simp at h5;omega
          subst hj2;have h7 : u = v := by simpa [hown.1] using hv
          subst h7;simp [hlt]
      · rw [setCells_one];have := hL_ hh;simpa [World.setCell] using this
      · rw [setCells_one];exact (Keep.refl _ _).setCell (.inl (by simp)) _
    · have holds : ∀ j v, xs[j]? = some v → w.cell? ((⟨g, off, none⟩ : Addr).add j) = some v := by
        intro j v hv;rw [show (⟨g, off, none⟩ : Addr).add j = ⟨g, off + j, none⟩ from by simp [Addr.add]];exact (cOH hh _).trans (hat j v hv)
      have hr := run_append_grow (P := P) w t ty e i z ht hi hz ⟨g, off, none⟩ n c xs (by simp [hown.1, hsize]) holds ad 1 1 [u] hl hnews (by omega) (by omega) (growslice_fits (by omega) hb1);exact ⟨_, 0, _, _, hr, grown c xs rfl, .inr rfl, by simp, hkeep _⟩
theorem wp_append_A {o : Oper} {a : Act} {K : Act → World → Prop} {Q : Exit → Act → World → Prop} (s x : Operand) (t : TypeId)
    (ho : o.op = .call { callee := .builtin .append, args := #[s, x], argTypes := #[t, t] })
    (i : TypeInfo) (z : Value) (bytes : Nat) (ht : P.underlying t = some (.slice e)) (hi : P.info? e = some i) (hz : i.zero = some z)
    (hsize : i.size = 1) (hby : i.bytes = bytes) (hzs : z.cells.size = 1) (hs : a.eval s = .slice A n c) (ad : Addr) (hx : a.eval x = .slice (some ad) 1 1)
    (u : Value) (hown : OwnA w e A n c xs fp) (hu : w.cell? ad = some u) (h1 : u.oneCell' = true)
    (hn : n + 1 ≤ 1000000000000) (hbytes : bytes ≤ 100)
    (h : ∀ g off c' w', OwnA w' e (some ⟨g, off, none⟩) (n + 1) c' (xs ++ [u]) [g] → (g ∈ fp ∨ w.heap.size = g) → g < w'.heap.size → Keep fp w w' → K (a.put o.dst (.slice (some ⟨g, off, none⟩) (n + 1) c')) w') : o.wp P a w K Q := by
  obtain ⟨g, off, c', w', hr, h2, h3, h4, h5⟩ := run_append_A (P := P) t o.type i z bytes ht hi hz hsize hby hzs hown ad u hu h1 hn hbytes;unfold Oper.wp execOp;simp only [ho, resolve, invoke, builtin, Sem.run_bind, Sem.run_pure, Result.andThen_ok, List.map_toArray, List.map_cons, List.map_nil, hs, hx, hr];exact h g off c' w' h2 h3 h4 h5
theorem wpList_append_A {ops : Array Oper} {rest : List Oper} {o : Oper} {a : Act} {Q : Exit → Act → World → Prop} (hgd : o.guard = none) (s x : Operand) (t : TypeId)
    (ho : o.op = .call { callee := .builtin .append, args := #[s, x], argTypes := #[t, t] })
    (i : TypeInfo) (z : Value) (bytes : Nat) (ht : P.underlying t = some (.slice e)) (hi : P.info? e = some i) (hz : i.zero = some z)
    (hsize : i.size = 1) (hby : i.bytes = bytes) (hzs : z.cells.size = 1) (hs : a.eval s = .slice A n c) (ad : Addr) (hx : a.eval x = .slice (some ad) 1 1)
    (u : Value) (hown : OwnA w e A n c xs fp) (hu : w.cell? ad = some u) (h1 : u.oneCell' = true)
    (hn : n + 1 ≤ 1000000000000) (hbytes : bytes ≤ 100)
    (h : ∀ g off c' w', OwnA w' e (some ⟨g, off, none⟩) (n + 1) c' (xs ++ [u]) [g] → (g ∈ fp ∨ w.heap.size = g) → g < w'.heap.size → Keep fp w w' → wpList P ops Q rest (a.put o.dst (.slice (some ⟨g, off, none⟩) (n + 1) c')) w') : wpList P ops Q (o :: rest) a w :=
  wpList_plain hgd fun _ hK => wp_append_A s x t ho i z bytes ht hi hz hsize hby hzs hs ad hx u hown hu h1 hn hbytes fun g off c' w' h2 h3 h4 h5 => hK _ _ (h g off c' w' h2 h3 h4 h5)
end
end Go.Proofs.Ytalcinepeofmcaa
namespace Go.Proofs.Ytalcinepeofmcaa
open Go.ChangeShapes Go.WideShapes Go.ChangeAt Go.RowKit
theorem own : ownKnob Try.prog.godebug = none := by kernel_rfl
theorem laidOut : laidOutB Try.prog = true := by kernel_rfl
section
variable {H : Type} {enc : TypeId × Value → H} {P : Program}
theorem trodAll_stays (hl : laidOutB P = true) {W W' : World} {sp' : Nat → Bool} : ∀ {ts : List TypeId} {vs : List Value} {ds : List (DataW H)} {ps : List MemPlace}, ts.all (fun t => P.readableRec t && decide (t < P.types.size)) = true →
    DataW.TrodAll enc P W 0 (fun _ => true) true ts vs ds ps → (∀ p ∈ ps, W.sameAt W' p) → (∀ p ∈ ps, sp' p.block = true) → DataW.TrodAll enc P W' 0 sp' true ts vs ds ps
  | [], [], [], ps, _, h, _, _ => h
  | t :: ts, v :: vs, d :: ds, ps, hr, h, hsame, hs => by
    obtain ⟨p, q, h1, h2, rfl⟩ := h;simp only [List.all_cons, Bool.and_eq_true, decide_eq_true_eq] at hr;exact ⟨p, q, WideElems.Trod_stays hl hr.1.1 hr.1.2 h1 (fun x hx => hsame x (by simp [hx])) (fun x hx => hs x (by simp [hx])),
      trodAll_stays hl hr.2 h2 (fun x hx => hsame x (by simp [hx])) (fun x hx => hs x (by simp [hx])), rfl⟩
theorem law_post (hl : laidOutB P = true) {f : Func} {s : ChangeSpec} {fresh handsOn again : Bool} {W W' : World} {args : Array Value} {ds gs : List (DataW H)} {before : List MemPlace} {tb : TypeId}
    (hr : f.params.toList.all (fun t => P.readableRec t && decide (t < P.types.size)) = true) (hres : f.resultTypes = #[tb]) (htb : P.underlying tb = some .bool) (hvars : s.vars = []) (hs : s.fn H ds = { results := [.lit (.bool true)], args := ds })
    (hW : DataW.Whole enc P f.params.toList s.vars false W args.toList ds gs before) (hb : Below W.heap.size W W') :
    s.post enc P f false fresh handsOn again W args (.bool true) W' := by
  have hlt : ∀ p ∈ before, p.block < W.heap.size := fun p hp => hW.lt p hp;have hW0 := hW;obtain ⟨pa, pv, hA, hV, hps, hz, hn⟩ := hW;rw [hvars] at hV;obtain ⟨rfl, rfl⟩ := trodVars_none hV;have hfn : s.fn H (ds ++ []) = { results := [.lit (.bool true)], args := ds } := by rw [List.append_nil]; exact hs
  have hargs : ∀ sp : Nat → Bool, (∀ p ∈ before, sp p.block = true) → DataW.TrodAll enc P W' 0 sp true f.params.toList args.toList ds pa := fun sp hsp =>
    trodAll_stays hl hr hA (fun p hp => hb.same (hlt p (by rw [hps]; simp [hp]))) (fun p hp => hsp p (by rw [hps]; simp [hp]))
  have hr1 : ∀ (b : Nat) (sp : Nat → Bool) (hd : Bool), DataW.TrodAll enc P W' b sp hd f.resultTypes.toList ((Value.bool true).resultList f.resultTypes.size) [.lit (.bool true)] [] := fun b sp hd => by
    rw [hres]; exact (trodAll_cons_mk (shut_bool htb _) trodAll_mk0)
  have hold : ∀ p ∈ before, (fun b => decide (b < W.heap.size)) p.block = true := fun p hp => by simpa using hlt p hp
  have hvr : ∀ sp : Nat → Bool, DataW.TrodVars enc P W' sp s.vars [] [] := fun sp => by rw [hvars]; rfl
  refine ⟨ds, [], before, [], pa, [], hW0, ?_, ?_, ?_, World.keptBut_mono (fun p hp => ⟨hp, ?_⟩) (hb.frame (· ∈ before)), fun _ => ?_⟩
  · rw [hfn]; exact hr1 _ _ _
  · rw [hfn]; exact hargs _ hold
  · rw [hfn]; exact hvr _
  · rw [hps, List.append_nil] at hp;exact Or.inr (by simpa using hp)
  · refine ⟨ok_one hres rfl (okWide_bool_mk htb _), [.lit (.bool true)] ++ ds, [], ([] ++ pa) ++ [], ⟨[] ++ pa, [], ?_, hvr _, rfl, ?_, ?_⟩, ?_⟩
    · exact trodAll_append (hargs _ (fun _ _ => rfl)) (hr1 _ _ _)
    · intro b off hp;have hin : MemPlace.cell b off ∈ before := by rw [hps]; simpa using hp
      rw [hb.frozen (hlt _ hin)];exact hz b off hin
    · intro ha;cases ha
    · intro p hp _;rw [hps];simpa using hp
end
section
variable {H : Type} {enc : TypeId × Value → H} {P : Program} {W : World}
theorem open_intsR {r : Reach} {b0 : Nat} {t e : TypeId} {k : IntKind} {v : Value} {d : DataW H} {ps : List MemPlace} (ht : P.underlying t = some (.slice e)) (he : P.underlying e = some (.int k)) (hc1 : P.cellsOf e = 1)
    (hval : Value.okWide P W r b0 t v) (hd : DataW.Trod enc P W 0 (fun _ => true) true t v d ps) :
    ∃ (A : Option Addr) (c : Nat) (l : List Int), v = .slice A l.length c ∧ Rd W 1 A l.length (l.map (Value.int k)) ∧ (∀ x ∈ l, (Lit.int k x).wf = true) ∧ l.length ≤ c ∧ c ≤ 9223372036854775807 ∧ (d = .nil ∧ l = [] ∨ ∃ rest, d = .slice (lits k l) rest) := by
  obtain ⟨a, len, cap, rfl⟩ := okWide_slice ht hval;obtain ⟨fuel, hf⟩ := hd;rcases open_ints ht he hc1 hf with ⟨hv, hx⟩ | ⟨a', len', cap', zs, hv, hb, hl, hm, hz, hx, hc, hw⟩
  · simp [Value.cells] at hv;obtain ⟨rfl, rfl, rfl⟩ := hv;simp only [Prod.mk.injEq] at hx;exact ⟨none, 0, [], rfl, Rd.nil _ _ _, by simp, by simp, by omega, .inl ⟨hx.1, rfl⟩⟩
  · simp [Value.cells] at hv;obtain ⟨rfl, rfl, rfl⟩ := hv;simp only [Prod.mk.injEq] at hx;simp only [if_true] at hz;have hll : (zs.take len).length = len := by rw [List.length_take]; omega
    unfold maxLen at hm;refine ⟨some a', cap, zs.take len, by rw [hll], ?_, fun x hx => hw x (List.mem_of_mem_take hx), by omega, hm, .inr ⟨_, hx.1⟩⟩;rw [hll];refine ⟨by rw [List.length_map, hll]; omega, fun hn => ?_⟩;obtain ⟨b, off, spot⟩ := a';have hspot : spot = none := by simpa [Addr.add] using World.cell?_spot (hc 0 (by omega))
    subst hspot;have h0 := hc 0 (by omega);rw [add_plain] at h0;refine ⟨b, off, rfl, World.block_lt_of_cell? _ _ h0, fun j u hu => ?_⟩;have hj : j < len := by
      have := (List.getElem?_eq_some_iff.1 hu).1;rw [List.length_map, hll] at this;exact this
    have h1 := hc j (by omega);rw [add_plain] at h1;rw [h1, ← hu, List.getElem?_map, List.getElem?_take_of_lt hj, List.getD_eq_getElem?_getD, List.getElem?_eq_getElem (by omega)];rfl
theorem reach_of {ts : List TypeId} {ds : List (DataW H)} {j : Nat} {t e : TypeId} {k : IntKind} {d : DataW H} {l : List Int} (h : (DataW.weightsEach P ts ds).all (· ≤ reachBytes) = true) (ht : ts[j]? = some t) (hd : ds[j]? = some d) (hu : P.underlying t = some (.slice e)) (hb : 1 ≤ P.bytesOf e)
    (hs : d = .nil ∧ l = [] ∨ ∃ rest, d = .slice (lits k l) rest) : l.length ≤ 140737488351232 := by
  rcases hs with ⟨_, rfl⟩ | ⟨rest, rfl⟩
  · simp
  · have h1 := sized_slice h ht hd hu;have h2 : l.length ≤ (l.length + rest.length) * P.bytesOf e := Nat.le_trans (Nat.le_add_right _ _) (Nat.le_mul_of_pos_right _ hb);simp only [lits, List.length_map, reachBytes] at h1;omega
theorem wf_u8 {x : Int} (h : (Lit.int .u8 x).wf = true) : 0 ≤ x ∧ x ≤ 255 := by simpa [Lit.wf, IntKind.min, IntKind.max, IntKind.signed, IntKind.bits] using h
end
end Go.Proofs.Ytalcinepeofmcaa
namespace Go.Proofs.Ytalcinepeofmcaa.Sp
def within (n lo hi : Int) : Bool := decide (lo ≤ n) && decide (n ≤ hi)
end Go.Proofs.Ytalcinepeofmcaa.Sp

namespace Go.Proofs.Ytalcinepeofmcaa
open Go Go.RowKit
section
variable {w w' : World} {e : TypeId} {n c : Nat} {xs : List Value} {fp : List Nat}
theorem Keep.cell {S : List Nat} (h : Keep S w w') {b o : Nat} {u : Value} (hc : w.cell? ⟨b, o, none⟩ = some u) (hn : b ∉ S) : w'.cell? ⟨b, o, none⟩ = some u :=
  (World.cell?_of_block (w := w) (h.block b (World.block_lt_of_cell? w _ hc) hn)).trans hc
theorem Keep.rd {S : List Nat} {size : Nat} {A : Option Addr} (h : Keep S w w') (hr : Rd w size A n xs) (hn : ∀ b off, A = some ⟨b, off, none⟩ → b ∉ S) : Rd w' size A n xs := by
  refine ⟨hr.1, fun h0 => ?_⟩;obtain ⟨b, off, e, hl, hc⟩ := hr.2 h0;exact ⟨b, off, e, Nat.lt_of_lt_of_le hl h.size, fun j u hu => h.cell (hc j u hu) (hn b off e)⟩
theorem cell_new_one (w : World) (u : Value) (t : TypeId) : (w.alloc (.cells #[u] t)).cell? ⟨w.heap.size, 0, none⟩ = some u := by simp [World.cell?_alloc_new]
end
end Go.Proofs.Ytalcinepeofmcaa
namespace Go.Proofs.Ytalcinepeofmcaa.Pt
open Sp
structure Chn where
  grow : Int
  frost : Int
  clear : Int
deriving DecidableEq, Inhabited
structure Cal where
  hour : Int
  berth : Int
  out : Bool
  draught : Int
  most : Int
  tugs : Int
deriving DecidableEq, Inhabited
structure Swp where
  hour : Int
  channel : Int
  tugs : Int
deriving DecidableEq, Inhabited
structure Mp where
  add : Int
  floor : Int
  most : Int
deriving DecidableEq, Inhabited
structure Vst where
  arr : Int
  last : Int
  stay : Int
  dra : Int
deriving DecidableEq, Inhabited
structure Plc where
  berth : Int
  start : Int
deriving DecidableEq, Inhabited
abbrev NL : Int := 1000000000
abbrev BIG : Int := 100000000
def mright (m : Mp) : Bool := within m.add (-BIG) BIG && within m.floor 0 BIG && (within m.most (-1) BIG || decide (m.most = NL))
def applyE (m : Mp) (b : Int) : Int := if mright m = false then 1 else if within b 0 BIG = false then 6 else if m.most < b then 8 else 0
def applyN (m : Mp) (b : Int) : Int := if applyE m b = 0 then max (b + m.add) m.floor else 0
def joinL (a m : Mp) : Int := if a.most < 0 ∨ m.most < 0 ∨ (m.most ≠ NL ∧ m.most < a.floor) then -1 else if m.most ≠ NL then max (-1) (min a.most (m.most - a.add)) else a.most
def join1 (a m : Mp) : Mp := ⟨a.add + m.add, max (a.floor + m.add) m.floor, joinL a m⟩
def small (m : Mp) : Prop := -200 ≤ m.add ∧ m.add ≤ 200 ∧ 0 ≤ m.floor ∧ m.floor ≤ 255 ∧ (m.most = -1 ∨ m.most = NL ∨ (0 ≤ m.most ∧ m.most ≤ 255))
theorem mright_iff {m : Mp} : mright m = true ↔ (-BIG ≤ m.add ∧ m.add ≤ BIG ∧ 0 ≤ m.floor ∧ m.floor ≤ BIG ∧ ((-1 ≤ m.most ∧ m.most ≤ BIG) ∨ m.most = NL)) := by
  simp [mright, within]; omega
theorem joinL_cases (a m : Mp) : (joinL a m = -1 ∧ (a.most < 0 ∨ m.most < 0 ∨ (m.most ≠ NL ∧ m.most < a.floor))) ∨
    ((0 ≤ a.most ∧ 0 ≤ m.most ∧ (m.most = NL ∨ a.floor ≤ m.most)) ∧ ((m.most ≠ NL ∧ ((a.most ≤ m.most - a.add ∧ joinL a m = a.most) ∨ (m.most - a.add < a.most ∧ -1 ≤ m.most - a.add ∧ joinL a m = m.most - a.add) ∨ (m.most - a.add < a.most ∧ m.most - a.add < -1 ∧ joinL a m = -1))) ∨ (m.most = NL ∧ joinL a m = a.most))) := by
  unfold joinL;split
  · left; omega
  · right;split
    · omega
    · omega
structure Brt where
  depth : Int
  path : List Int
deriving DecidableEq, Inhabited
structure Prt where
  chs : List Chn
  bts : List Brt
  tugs : Int
deriving DecidableEq, Inhabited
structure Pln where
  hours : Int
  calls : List Cal
  swps : List Swp
deriving DecidableEq, Inhabited
structure Stt where
  brash : List Int
  busy : List Bool
deriving DecidableEq, Inhabited
def getI (l : List Int) (i : Int) : Int := l.getD i.toNat 0
def setI (l : List Int) (i : Int) (x : Int) : List Int := l.set i.toNat x
theorem setI_length (l : List Int) (i x : Int) : (setI l i x).length = l.length := by simp [setI]
def ch (p : Prt) (i : Int) : Chn := p.chs.getD i.toNat default
def bt (p : Prt) (i : Int) : Brt := p.bts.getD i.toNat default
def chOk (c : Chn) : Bool := within c.grow 0 100 && within c.frost 0 20 && within c.clear 1 200
def pathOk (n : Int) (l : List Int) : Nat → Bool
  | 0 => true
  | k + 1 => pathOk n l k && (within (l.getD k 0) 0 (n - 1) && !(l.take k).contains (l.getD k 0))
def btOk (n : Int) (b : Brt) : Bool := within b.depth 10 3000 && (!decide (b.path.length = 0) && pathOk n b.path b.path.length)
def checkP (p : Prt) : Int :=
  if (within p.chs.length 1 6 && within p.bts.length 1 4) = false then 2
  else if within p.tugs 0 20 = false then 100
  else if p.chs.all chOk = false then 100
  else if p.bts.all (btOk p.chs.length) = false then 100 else 0
def callE (p : Prt) (hours : Int) (c : Cal) (before : Int) : Int :=
  if (within c.berth 0 ((p.bts.length : Int) - 1) && (within c.most 0 1000000 && within c.tugs 0 20)) = false then 1
  else if within c.draught 10 (bt p c.berth).depth = false then 100
  else if within c.hour 0 (hours - 1) = false then 12
  else if c.hour < before then 11 else 0
def callsE (p : Prt) (hours : Int) : Int → List Cal → Int
  | _, [] => 0
  | before, c :: l => if callE p hours c before ≠ 0 then callE p hours c before else callsE p hours c.hour l
def swpE (p : Prt) (hours : Int) (s : Swp) : Int :=
  if (within s.channel 0 ((p.chs.length : Int) - 1) && within s.tugs 1 20) = false then 1
  else if within s.hour 0 (hours - 1) = false then 12 else 0
def swpsE (p : Prt) (hours : Int) : List Swp → Int
  | [] => 0
  | s :: l => if swpE p hours s ≠ 0 then swpE p hours s else swpsE p hours l
structure Tly where
  tugs : List Int
  twice : List Bool
  hits : List (Int × Int)
def hit1 (h : Int) (t : Tly) (n : Int) : Tly := ⟨t.tugs, t.twice.set h.toNat (t.twice.getD h.toNat false || decide (1 < (t.hits.count (h, n) + 1))), (h, n) :: t.hits⟩
def tlyCall (p : Prt) (t : Tly) (c : Cal) : Tly := (bt p c.berth).path.foldl (hit1 c.hour) ⟨setI t.tugs c.hour (getI t.tugs c.hour + c.tugs), t.twice, t.hits⟩
def tly0 (hours : Nat) : Tly := ⟨List.replicate hours 0, List.replicate hours false, []⟩
def tlyCalls (p : Prt) (hours : Nat) (l : List Cal) : Tly := l.foldl (tlyCall p) (tly0 hours)
def addSwp (t : List Int) (s : Swp) : List Int := setI t s.hour (getI t s.hour + s.tugs)
def finE (tg : Int) (ts : List Int) (tw : List Bool) : Nat → Nat → Int
  | _, 0 => 0
  | k, n + 1 => if tw.getD k false then 10 else if tg < ts.getD k 0 then 9 else finE tg ts tw (k + 1) n
def checkL (p : Prt) (l : Pln) : Int :=
  if checkP p ≠ 0 then checkP p
  else if 60 < l.calls.length ∨ 200 < l.swps.length then 2
  else if within l.hours 1 100 = false then 6
  else if callsE p l.hours 0 l.calls ≠ 0 then callsE p l.hours 0 l.calls
  else if swpsE p l.hours l.swps ≠ 0 then swpsE p l.hours l.swps
  else finE p.tugs (l.swps.foldl addSwp (tlyCalls p l.hours.toNat l.calls).tugs) (tlyCalls p l.hours.toNat l.calls).twice 0 l.hours.toNat
def startE (p : Prt) (s : Stt) (l : Pln) : Int :=
  if checkL p l ≠ 0 then checkL p l
  else if s.brash.length ≠ p.chs.length ∨ s.busy.length ≠ p.bts.length ∨ s.brash.any (fun n => !within n 0 1000000) = true then 1 else 0
def swp1 (p : Prt) (h : Int) (b : List Int) (s : Swp) : List Int := if s.hour = h then setI b s.channel (max 0 (getI b s.channel - s.tugs * (ch p s.channel).clear)) else b
def swpN (p : Prt) (h : Int) (l : List Swp) (b : List Int) : List Int := l.foldl (swp1 p h) b
def grow1 (p : Prt) (b : List Int) (n : Int) : List Int := setI b n (getI b n + (ch p n).grow)
def growN (p : Prt) (path : List Int) (b : List Int) : List Int := path.foldl (grow1 p) b
def callsN (p : Prt) (h : Int) : List Cal → Nat → Stt → Nat × Int × Stt
  | [], i, s => (i, 0, s)
  | c :: l, i, s =>
    if c.hour ≠ h then callsN p h l (i + 1) s
    else if s.busy.getD c.berth.toNat false ≠ c.out then (i, 9, s)
    else if (bt p c.berth).path.any (fun n => decide (c.most < getI s.brash n)) = true then (i, 8, s)
    else callsN p h l (i + 1) ⟨growN p (bt p c.berth).path s.brash, s.busy.set c.berth.toNat (!c.out)⟩
def frostN (p : Prt) (b : List Int) : Nat → List Int
  | 0 => b
  | k + 1 => setI (frostN p b k) k (getI (frostN p b k) k + (ch p k).frost)
def frostL (p : Prt) (b : List Int) : List Int := frostN p b p.chs.length
def hourR (p : Prt) (l : Pln) (h : Nat) (s : Stt) : Nat × Int × Stt := callsN p h l.calls 0 ⟨swpN p h l.swps s.brash, s.busy⟩
def hourS (p : Prt) (l : Pln) (h : Nat) (s : Stt) : Stt := ⟨frostL p (hourR p l h s).2.2.brash, (hourR p l h s).2.2.busy⟩
def stN (p : Prt) (l : Pln) (s : Stt) : Nat → Stt
  | 0 => s
  | k + 1 => hourS p l k (stN p l s k)
def runF (p : Prt) (l : Pln) (s : Stt) : Nat → Nat → Nat × Int
  | _, 0 => (l.calls.length, 0)
  | k, n + 1 => if (hourR p l k (stN p l s k)).2.1 ≠ 0 then ((hourR p l k (stN p l s k)).1, (hourR p l k (stN p l s k)).2.1) else runF p l s (k + 1) n
def runR (p : Prt) (l : Pln) (s : Stt) : Nat × Int := runF p l s 0 l.hours.toNat
def mapsH (p : Prt) (l : Pln) (c : Int) (h : Nat) : List Mp :=
  (l.swps.filter fun s => decide (s.hour = (h : Int)) && decide (s.channel = c)).map (fun s => ⟨-s.tugs * (ch p c).clear, 0, NL⟩)
  ++ ((l.calls.filter fun x => decide (x.hour = (h : Int)) && (bt p x.berth).path.contains c).map (fun x => ⟨(ch p c).grow, (ch p c).grow, x.most⟩)
  ++ [⟨(ch p c).frost, (ch p c).frost, NL⟩])
def mapsS (p : Prt) (l : Pln) (c : Int) : List Mp := (List.range l.hours.toNat).flatMap (mapsH p l c)
def id1 : Mp := ⟨0, 0, NL⟩
def foldS (p : Prt) (l : Pln) (c : Int) : Mp := (mapsS p l c).foldl join1 id1
def foldE (p : Prt) (l : Pln) (c : Int) : Int := if checkL p l ≠ 0 then checkL p l else if within c 0 ((p.chs.length : Int) - 1) = false then 1 else 0
def turnsL : List Bool → Bool
  | [] => true
  | [_] => true
  | a :: b :: l => decide (a ≠ b) && turnsL (b :: l)
def outsOf (l : Pln) (b : Int) : List Bool := (l.calls.filter fun c => decide (c.berth = b)).map (·.out)
def turnsB (l : Pln) (b : Int) : Bool := turnsL (outsOf l b) && decide ((outsOf l b).length % 2 = 0)
def turnsN (l : Pln) : Nat → Bool
  | 0 => true
  | k + 1 => turnsN l k && turnsB l k
def turns (p : Prt) (l : Pln) : Bool := turnsN l p.bts.length
def staysBad (m : Mp) : Bool := decide (m.most ≠ NL) && (decide (0 < m.add) || decide (m.most < m.floor))
def folds (p : Prt) (l : Pln) : List Mp := (List.range p.chs.length).map fun (c : Nat) => foldS p l c
def staysE (p : Prt) (l : Pln) : Int :=
  if checkL p l ≠ 0 then checkL p l else if turns p l = false then 9 else if (folds p l).any staysBad = true then 4 else 0
def staysV (p : Prt) (l : Pln) : List Int := if staysE p l = 0 then (folds p l).map (·.most) else []
def rounds (m : Mp) : Int :=
  if m.most = NL ∨ (m.add ≤ 0 ∧ max m.add m.floor ≤ m.most) then -1
  else if m.most < 0 then 0
  else if m.most < max m.add m.floor then 1
  else 2 + (m.most - max m.add m.floor).tdiv m.add
def wornN (l : List Mp) : Nat → Int × Int
  | 0 => (-1, 0)
  | k + 1 => let n := rounds (l.getD k default); if 0 ≤ n ∧ ((wornN l k).1 < 0 ∨ n < (wornN l k).1) then (n, (k : Int)) else wornN l k
def wornR (p : Prt) (l : Pln) : Int × Int := wornN (folds p l) p.chs.length
def wornE (p : Prt) (l : Pln) : Int := if checkL p l ≠ 0 then checkL p l else if (wornR p l).1 < 0 then 4 else 0
end Go.Proofs.Ytalcinepeofmcaa.Pt
namespace Go.Proofs.Ytalcinepeofmcaa
open Go
def ints (l : List Int) : List Value := l.map (Value.int .i64)
theorem iG_ {l : List Int} {k : Nat} (h : k < l.length) : (ints l)[k]? = some (.int .i64 (l.getD k 0)) := by simp [ints, h]
def bools (l : List Bool) : List Value := l.map Value.bool
theorem bools_get {l : List Bool} {k : Nat} (h : k < l.length) : (bools l)[k]? = some (.bool (l.getD k false)) := by simp [bools, h]
end Go.Proofs.Ytalcinepeofmcaa
namespace Go.Proofs.Ytalcinepeofmcaa
open Go Go.RowKit Sp Pt
theorem flat_get {T : Type} {f : T → List Value} {s : Nat} (hf : ∀ x, (f x).length = s) {l : List T} {k : Nat} (hk : k < l.length) {j : Nat} (hj : j < s) : (l.flatMap f)[k*s + j]? = (f l[k])[j]? := by
  induction l generalizing k with
  | nil => simp at hk
  | cons x l ih =>
    rw [List.flatMap_cons];cases k with
    | zero => rw [Nat.zero_mul, Nat.zero_add, List.getElem?_append_left (by rw [hf]; exact hj)]; rfl
    | succ k =>
      have e : (k+1)*s + j = s + (k*s + j) := by rw [Nat.add_mul]; omega
      rw [e, List.getElem?_append_right (by rw [hf]; omega), hf, Nat.add_sub_cancel_left];simpa using ih (k := k) (by simpa using hk)
theorem flat_len {T : Type} {f : T → List Value} {s : Nat} (hf : ∀ x, (f x).length = s) (l : List T) : (l.flatMap f).length = l.length * s := by
  induction l with
  | nil => simp
  | cons x l ih => rw [List.flatMap_cons, List.length_append, ih, hf, List.length_cons, Nat.add_mul]; omega
theorem flat_snoc {T : Type} (f : T → List Value) (l : List T) (x : T) : (l ++ [x]).flatMap f = l.flatMap f ++ f x := by simp
def RdB (D : Nat) (w : World) (size : Nat) (A : Option Addr) (n : Nat) (xs : List Value) : Prop :=
  xs.length = n * size ∧ (0 < n → ∃ b off, A = some ⟨b, off, none⟩ ∧ b < D ∧ ∀ j u, xs[j]? = some u → w.cell? ⟨b, off + j, none⟩ = some u)
section
variable {D : Nat} {w w' : World} {size n : Nat} {A : Option Addr} {xs : List Value}
theorem RdB.rd (h : RdB D w size A n xs) (hD : D ≤ w.heap.size) : Rd w size A n xs :=
  ⟨h.1, fun h0 => by obtain ⟨b, off, e, hb, hc⟩ := h.2 h0; exact ⟨b, off, e, by omega, hc⟩⟩
theorem RdB.of (h : Rd w size A n xs) (hD : w.heap.size ≤ D) : RdB D w size A n xs :=
  ⟨h.1, fun h0 => by obtain ⟨b, off, e, hb, hc⟩ := h.2 h0; exact ⟨b, off, e, by omega, hc⟩⟩
theorem RdB.below (h : RdB D w size A n xs) (hb : Below D w w') : RdB D w' size A n xs :=
  ⟨h.1, fun h0 => by obtain ⟨b, off, e, hl, hc⟩ := h.2 h0; exact ⟨b, off, e, hl, fun j u hu => (hb.cell (p := ⟨b, off + j, none⟩) hl).trans (hc j u hu)⟩⟩
theorem RdB.mono (h : RdB D w size A n xs) {D' : Nat} (hD : D ≤ D') : RdB D' w size A n xs :=
  ⟨h.1, fun h0 => by obtain ⟨b, off, e, hb, hc⟩ := h.2 h0; exact ⟨b, off, e, by omega, hc⟩⟩
end
def chc (c : Chn) : List Value := [.int .i64 c.grow, .int .i64 c.frost, .int .i64 c.clear]
abbrev chcs (l : List Chn) : List Value := l.flatMap chc
def cac (c : Cal) : List Value := [.int .i64 c.hour, .int .i64 c.berth, .bool c.out, .int .i64 c.draught, .int .i64 c.most, .int .i64 c.tugs]
abbrev cacs (l : List Cal) : List Value := l.flatMap cac
def swc (s : Swp) : List Value := [.int .i64 s.hour, .int .i64 s.channel, .int .i64 s.tugs]
abbrev swcs (l : List Swp) : List Value := l.flatMap swc
def vsc (v : Vst) : List Value := [.int .i64 v.arr, .int .i64 v.last, .int .i64 v.stay, .int .i64 v.dra]
abbrev vscs (l : List Vst) : List Value := l.flatMap vsc
def plc (x : Plc) : List Value := [.int .i64 x.berth, .int .i64 x.start]
abbrev plcs (l : List Plc) : List Value := l.flatMap plc
theorem chcs_get {l : List Chn} {k : Nat} (hk : k < l.length) : (chcs l)[k*3]? = some (.int .i64 l[k].grow) ∧ (chcs l)[k*3+1]? = some (.int .i64 l[k].frost) ∧ (chcs l)[k*3+2]? = some (.int .i64 l[k].clear) :=
  ⟨flat_get (f := chc) (s := 3) (fun _ => rfl) hk (j := 0) (by decide), flat_get (f := chc) (s := 3) (fun _ => rfl) hk (j := 1) (by decide), flat_get (f := chc) (s := 3) (fun _ => rfl) hk (j := 2) (by decide)⟩
theorem cacs_get {l : List Cal} {k : Nat} (hk : k < l.length) : (cacs l)[k*6]? = some (.int .i64 l[k].hour) ∧ (cacs l)[k*6+1]? = some (.int .i64 l[k].berth) ∧ (cacs l)[k*6+2]? = some (.bool l[k].out) ∧ (cacs l)[k*6+3]? = some (.int .i64 l[k].draught) ∧ (cacs l)[k*6+4]? = some (.int .i64 l[k].most) ∧ (cacs l)[k*6+5]? = some (.int .i64 l[k].tugs) :=
  ⟨flat_get (f := cac) (s := 6) (fun _ => rfl) hk (j := 0) (by decide), flat_get (f := cac) (s := 6) (fun _ => rfl) hk (j := 1) (by decide), flat_get (f := cac) (s := 6) (fun _ => rfl) hk (j := 2) (by decide), flat_get (f := cac) (s := 6) (fun _ => rfl) hk (j := 3) (by decide), flat_get (f := cac) (s := 6) (fun _ => rfl) hk (j := 4) (by decide), flat_get (f := cac) (s := 6) (fun _ => rfl) hk (j := 5) (by decide)⟩
theorem swcs_get {l : List Swp} {k : Nat} (hk : k < l.length) : (swcs l)[k*3]? = some (.int .i64 l[k].hour) ∧ (swcs l)[k*3+1]? = some (.int .i64 l[k].channel) ∧ (swcs l)[k*3+2]? = some (.int .i64 l[k].tugs) :=
  ⟨flat_get (f := swc) (s := 3) (fun _ => rfl) hk (j := 0) (by decide), flat_get (f := swc) (s := 3) (fun _ => rfl) hk (j := 1) (by decide), flat_get (f := swc) (s := 3) (fun _ => rfl) hk (j := 2) (by decide)⟩
theorem vscs_get {l : List Vst} {k : Nat} (hk : k < l.length) : (vscs l)[k*4]? = some (.int .i64 l[k].arr) ∧ (vscs l)[k*4+1]? = some (.int .i64 l[k].last) ∧ (vscs l)[k*4+2]? = some (.int .i64 l[k].stay) ∧ (vscs l)[k*4+3]? = some (.int .i64 l[k].dra) :=
  ⟨flat_get (f := vsc) (s := 4) (fun _ => rfl) hk (j := 0) (by decide), flat_get (f := vsc) (s := 4) (fun _ => rfl) hk (j := 1) (by decide), flat_get (f := vsc) (s := 4) (fun _ => rfl) hk (j := 2) (by decide), flat_get (f := vsc) (s := 4) (fun _ => rfl) hk (j := 3) (by decide)⟩
theorem plcs_get {l : List Plc} {k : Nat} (hk : k < l.length) : (plcs l)[k*2]? = some (.int .i64 l[k].berth) ∧ (plcs l)[k*2+1]? = some (.int .i64 l[k].start) :=
  ⟨flat_get (f := plc) (s := 2) (fun _ => rfl) hk (j := 0) (by decide), flat_get (f := plc) (s := 2) (fun _ => rfl) hk (j := 1) (by decide)⟩
def PathB (D : Nat) (w : World) (A : Option Addr) (c : Nat) (l : List Int) : Prop := RdB D w 1 A l.length (ints l) ∧ l.length ≤ c ∧ c ≤ 9223372036854775807 ∧ (A = none → c = 0)
def BtsB (D : Nat) (w : World) (A : Option Addr) (l : List Brt) : Prop :=
  ∀ (k : Nat) (hk : k < l.length), ∃ b off Ak ck, A = some ⟨b, off, none⟩ ∧ b < D ∧ w.cell? ⟨b, off + k*2, none⟩ = some (.int .i64 l[k].depth) ∧ w.cell? ⟨b, off + k*2 + 1, none⟩ = some (.slice Ak l[k].path.length ck) ∧ PathB D w Ak ck l[k].path
section
variable {D : Nat} {w w' : World} {A : Option Addr}
theorem PathB.below {c : Nat} {l : List Int} (h : PathB D w A c l) (hb : Below D w w') : PathB D w' A c l := ⟨h.1.below hb, h.2⟩
theorem PathB.mono {c : Nat} {l : List Int} (h : PathB D w A c l) {D' : Nat} (hD : D ≤ D') : PathB D' w A c l := ⟨h.1.mono hD, h.2⟩
theorem BtsB.below {l : List Brt} (h : BtsB D w A l) (hb : Below D w w') : BtsB D w' A l := by
  intro k hk;obtain ⟨b, off, Ak, ck, e, hlt, h1, h2, h3⟩ := h k hk;exact ⟨b, off, Ak, ck, e, hlt, (hb.cell (p := ⟨b, off + k*2, none⟩) hlt).trans h1, (hb.cell (p := ⟨b, off + k*2 + 1, none⟩) hlt).trans h2, h3.below hb⟩
theorem BtsB.mono {l : List Brt} (h : BtsB D w A l) {D' : Nat} (hD : D ≤ D') : BtsB D' w A l := by
  intro k hk;obtain ⟨b, off, Ak, ck, e, hlt, h1, h2, h3⟩ := h k hk;exact ⟨b, off, Ak, ck, e, by omega, h1, h2, h3.mono hD⟩
end
abbrev prtV (Ac : Option Addr) (cc : Nat) (Ab : Option Addr) (cb : Nat) (p : Prt) : Array Value := #[.slice Ac p.chs.length cc, .slice Ab p.bts.length cb, .int .i64 p.tugs]
structure PrtB (D : Nat) (w : World) (Ac : Option Addr) (cc : Nat) (Ab : Option Addr) (cb : Nat) (p : Prt) : Prop where
  chs : RdB D w 3 Ac p.chs.length (chcs p.chs)
  bts : BtsB D w Ab p.bts
  c1 : p.chs.length ≤ cc ∧ cc ≤ 9223372036854775807 ∧ (Ac = none → cc = 0)
  c2 : p.bts.length ≤ cb ∧ cb ≤ 9223372036854775807 ∧ (Ab = none → cb = 0)
abbrev plnV (Al : Option Addr) (cl : Nat) (As : Option Addr) (cs : Nat) (l : Pln) : Array Value := #[.int .i64 l.hours, .slice Al l.calls.length cl, .slice As l.swps.length cs]
structure PlnB (D : Nat) (w : World) (Al : Option Addr) (cl : Nat) (As : Option Addr) (cs : Nat) (l : Pln) : Prop where
  calls : RdB D w 6 Al l.calls.length (cacs l.calls)
  swps : RdB D w 3 As l.swps.length (swcs l.swps)
  c1 : l.calls.length ≤ cl ∧ cl ≤ 9223372036854775807 ∧ (Al = none → cl = 0)
  c2 : l.swps.length ≤ cs ∧ cs ≤ 9223372036854775807 ∧ (As = none → cs = 0)
section
variable {D : Nat} {w w' : World} {Ac Ab Al As : Option Addr} {cc cb cl cs : Nat} {p : Prt} {l : Pln}
theorem PrtB.below (h : PrtB D w Ac cc Ab cb p) (hb : Below D w w') : PrtB D w' Ac cc Ab cb p := ⟨h.chs.below hb, h.bts.below hb, h.c1, h.c2⟩
theorem PrtB.mono (h : PrtB D w Ac cc Ab cb p) {D' : Nat} (hD : D ≤ D') : PrtB D' w Ac cc Ab cb p := ⟨h.chs.mono hD, h.bts.mono hD, h.c1, h.c2⟩
theorem PlnB.below (h : PlnB D w Al cl As cs l) (hb : Below D w w') : PlnB D w' Al cl As cs l := ⟨h.calls.below hb, h.swps.below hb, h.c1, h.c2⟩
theorem PlnB.mono (h : PlnB D w Al cl As cs l) {D' : Nat} (hD : D ≤ D') : PlnB D' w Al cl As cs l := ⟨h.calls.mono hD, h.swps.mono hD, h.c1, h.c2⟩
end
end Go.Proofs.Ytalcinepeofmcaa
namespace Go.Proofs.Ytalcinepeofmcaa
open Go Go.RowKit Sp Pt
theorem pWa (n lo hi : Int) (w : World) :
    Calls Try.prog 39 #[.int .i64 n, .int .i64 lo, .int .i64 hi] w fun e w' => e = .returned (.bool (within n lo hi)) ∧ w = w' := by
  go_enter Try.func39, Try.ntmps39
  go_wp2
  all_goals (go_ret; refine ⟨?_, rfl⟩; simp [within]; try omega)
abbrev mpV (m : Mp) : Value := .agg #[.int .i64 m.add, .int .i64 m.floor, .int .i64 m.most]
theorem nothing_any (v : Value) (w : World) : Calls Try.prog 29 #[v] w fun e w' => e = .returned (.tuple #[]) ∧ w = w' := by
  go_enter Try.func29, Try.ntmps29
  go_wp2
  go_end0
  exact ⟨rfl, rfl⟩
theorem idxBad_any (f : Int → Bool) (A : Option Addr) (c : Nat) (l : List Int) (w : World) (hr : Rd w 1 A l.length (ints l)) (hm : l.length ≤ 9223372036854775807)
    (hf : ∀ x ∈ l, ∀ n, Calls Try.prog 46 #[.int .i64 x] (w.drewN n) fun e w' => e = .returned (.bool (f x)) ∧ ∃ m, w' = w.drewN m) :
    Calls Try.prog 68 #[.slice A l.length c, .func (.func 46) #[] #[]] w fun e w' => ∃ r : Int, e = .returned (.int .i64 r) ∧ decide (0 ≤ r) = l.any f ∧ ∃ m, w' = w.drewN m := by
  go_enter Try.func68, Try.ntmps68
  go_wp2_with fail
  go_loopg [8] (l.length) (fun g i wr => ∃ k : Nat, g + k = l.length ∧ i = .int .i64 k ∧ (l.take k).any f = false ∧ ∃ m, wr = w.drewN m)
  case atStart => exact ⟨0, rfl, rfl, by simp, 0, rfl⟩
  case round =>
    obtain ⟨k, hk, rfl, hb, m, rfl⟩ := hrel;have HB := Lib.hid hb;clear hb;by_cases hlt : k < l.length
    · obtain ⟨b, off, rfl, hbb, hc⟩ := hr.2 (by omega);have c0 := hc k _ (iG_ hlt);obtain ⟨x, hx⟩ : ∃ x, x = l.getD k 0 := ⟨_, rfl⟩;rw [← hx] at c0;have hx' : l[k] = x := by rw [hx]; simp [hlt]
      have H := hf x (by rw [← hx']; exact List.getElem_mem _) m;obtain ⟨z, hz⟩ : ∃ z, z = f x := ⟨_, rfl⟩;rw [← hz] at H;have hs : (l.take (k + 1)).any f = z := by rw [List.take_succ_eq_append_getElem hlt, List.any_append, HB.out, hx', hz]; simp
      have HH := Lib.hid (And.intro H hs);clear H hs hz hx' hx hc hr hf;cases z
      · go_wp2_with (go_at_call 46; refine HH.out.1.mono ?_; rintro e w' ⟨rfl, m', rfl⟩)
        go_roundg (gk - 1);case measure => omega
        case rel => exact ⟨k + 1, by omega, by go_num, HH.out.2, m', rfl⟩
      · go_wp2_with (go_at_call 46; refine HH.out.1.mono ?_; rintro e w' ⟨rfl, m', rfl⟩)
        go_ret;refine ⟨k, rfl, ?_, m', rfl⟩;have h1 : l.any f = true := by
          obtain ⟨y, hy, hfy⟩ := List.any_eq_true.1 HH.out.2;exact List.any_eq_true.2 ⟨y, List.mem_of_mem_take hy, hfy⟩
        rw [h1]; simp
    · obtain rfl : k = l.length := by omega
      go_wp2_with fail
      go_ret;exact ⟨-1, rfl, by have := HB.out; rw [List.take_length] at this; rw [this]; simp, m, rfl⟩
theorem anyBad_any (f : Int → Bool) (A : Option Addr) (c : Nat) (l : List Int) (w : World) (hr : Rd w 1 A l.length (ints l)) (hm : l.length ≤ 9223372036854775807)
    (hf : ∀ x ∈ l, ∀ n, Calls Try.prog 46 #[.int .i64 x] (w.drewN n) fun e w' => e = .returned (.bool (f x)) ∧ ∃ m, w' = w.drewN m) :
    Calls Try.prog 45 #[.slice A l.length c, .func (.func 46) #[] #[]] w fun e w' => e = .returned (.bool (l.any f)) ∧ ∃ m, w' = w.drewN m := by
  have H := idxBad_any f  A c l w hr hm hf;clear hf
  go_enter Try.func45, Try.ntmps45
  go_wp2_with (go_at_call 68; refine H.mono ?_; rintro e w' ⟨r, rfl, hd, m, rfl⟩; have HD := Lib.hid hd; clear hd)
  go_ret;exact ⟨by rw [← HD.out]; rfl, m, rfl⟩
theorem idxOver_any (f : Int → Bool) (c0 c1 : Value) (A : Option Addr) (c : Nat) (l : List Int) (w : World) (hr : Rd w 1 A l.length (ints l)) (hm : l.length ≤ 9223372036854775807)
    (hf : ∀ x ∈ l, ∀ n, Calls Try.prog 69 #[.int .i64 x, c0, c1] (w.drewN n) fun e w' => e = .returned (.bool (f x)) ∧ ∃ m, w' = w.drewN m) :
    Calls Try.prog 68 #[.slice A l.length c, .func (.func 69) #[] #[c0, c1]] w fun e w' => ∃ r : Int, e = .returned (.int .i64 r) ∧ decide (0 ≤ r) = l.any f ∧ ∃ m, w' = w.drewN m := by
  go_enter Try.func68, Try.ntmps68
  go_wp2_with fail
  go_loopg [8] (l.length) (fun g i wr => ∃ k : Nat, g + k = l.length ∧ i = .int .i64 k ∧ (l.take k).any f = false ∧ ∃ m, wr = w.drewN m)
  case atStart => exact ⟨0, rfl, rfl, by simp, 0, rfl⟩
  case round =>
    obtain ⟨k, hk, rfl, hb, m, rfl⟩ := hrel;have HB := Lib.hid hb;clear hb;by_cases hlt : k < l.length
    · obtain ⟨b, off, rfl, hbb, hc⟩ := hr.2 (by omega);have c0 := hc k _ (iG_ hlt);obtain ⟨x, hx⟩ : ∃ x, x = l.getD k 0 := ⟨_, rfl⟩;rw [← hx] at c0;have hx' : l[k] = x := by rw [hx]; simp [hlt]
      have H := hf x (by rw [← hx']; exact List.getElem_mem _) m;obtain ⟨z, hz⟩ : ∃ z, z = f x := ⟨_, rfl⟩;rw [← hz] at H;have hs : (l.take (k + 1)).any f = z := by rw [List.take_succ_eq_append_getElem hlt, List.any_append, HB.out, hx', hz]; simp
      have HH := Lib.hid (And.intro H hs);clear H hs hz hx' hx hc hr hf;cases z
      · go_wp2_with (go_at_call 69; refine HH.out.1.mono ?_; rintro e w' ⟨rfl, m', rfl⟩)
        go_roundg (gk - 1);case measure => omega
        case rel => exact ⟨k + 1, by omega, by go_num, HH.out.2, m', rfl⟩
      · go_wp2_with (go_at_call 69; refine HH.out.1.mono ?_; rintro e w' ⟨rfl, m', rfl⟩)
        go_ret;refine ⟨k, rfl, ?_, m', rfl⟩;have h1 : l.any f = true := by
          obtain ⟨y, hy, hfy⟩ := List.any_eq_true.1 HH.out.2;exact List.any_eq_true.2 ⟨y, List.mem_of_mem_take hy, hfy⟩
        rw [h1]; simp
    · obtain rfl : k = l.length := by omega
      go_wp2_with fail
      go_ret;exact ⟨-1, rfl, by have := HB.out; rw [List.take_length] at this; rw [this]; simp, m, rfl⟩
theorem anyOver_any (f : Int → Bool) (c0 c1 : Value) (A : Option Addr) (c : Nat) (l : List Int) (w : World) (hr : Rd w 1 A l.length (ints l)) (hm : l.length ≤ 9223372036854775807)
    (hf : ∀ x ∈ l, ∀ n, Calls Try.prog 69 #[.int .i64 x, c0, c1] (w.drewN n) fun e w' => e = .returned (.bool (f x)) ∧ ∃ m, w' = w.drewN m) :
    Calls Try.prog 45 #[.slice A l.length c, .func (.func 69) #[] #[c0, c1]] w fun e w' => e = .returned (.bool (l.any f)) ∧ ∃ m, w' = w.drewN m := by
  have H := idxOver_any f c0 c1 A c l w hr hm hf;clear hf
  go_enter Try.func45, Try.ntmps45
  go_wp2_with (go_at_call 68; refine H.mono ?_; rintro e w' ⟨r, rfl, hd, m, rfl⟩; have HD := Lib.hid hd; clear hd)
  go_ret;exact ⟨by rw [← HD.out]; rfl, m, rfl⟩
theorem indexI_any (A : Option Addr) (c : Nat) (l : List Int) (t : Int) (w : World) (hr : Rd w 1 A l.length (ints l)) (hm : l.length ≤ 9223372036854775807) :
    Calls Try.prog 91 #[.slice A l.length c, .int .i64 t] w fun e w' => ∃ r : Int, e = .returned (.int .i64 r) ∧ decide (0 ≤ r) = l.contains t ∧ w = w' := by
  go_enter Try.func91, Try.ntmps91
  go_wp2_with fail
  go_loopg [8] (l.length) (fun g i wr => ∃ k : Nat, g + k = l.length ∧ i = .int .i64 k ∧ (l.take k).contains t = false ∧ w = wr)
  case atStart => exact ⟨0, rfl, rfl, by simp, rfl⟩
  case round =>
    obtain ⟨k, hk, rfl, hb, rfl⟩ := hrel;have HB := Lib.hid hb;clear hb;by_cases hlt : k < l.length
    · obtain ⟨b, off, rfl, hbb, hc⟩ := hr.2 (by omega);have c0 := hc k _ (iG_ hlt);obtain ⟨x, hx⟩ : ∃ x, x = l.getD k 0 := ⟨_, rfl⟩;rw [← hx] at c0;have hx' : l[k] = x := by rw [hx]; simp [hlt]
      have HX := Lib.hid hx';clear hx hx' hc hr;go_wp2_with fail
      · go_ret;refine ⟨k, rfl, ?_, rfl⟩;have h1 : l.contains t = true := by
          rw [List.contains_iff_mem];have : l[k] ∈ l := List.getElem_mem _;rw [HX.out] at this
          rename_i h
          have h' : t = x := by simpa using h
          rw [h']; exact this
        rw [h1]; simp
      · go_roundg (gk - 1);case measure => omega
        case rel =>
          refine ⟨k + 1, by omega, by go_num, ?_, rfl⟩;rw [List.take_succ_eq_append_getElem hlt, HX.out];have h2 := HB.out;simp only [List.contains_eq_mem, decide_eq_false_iff_not, List.mem_append, List.mem_singleton] at h2 ⊢;rintro (h | h)
          · exact h2 h
          · simp_all
    · obtain rfl : k = l.length := by omega
      go_wp2_with fail
      go_ret;exact ⟨-1, rfl, by have := HB.out; rw [List.take_length] at this; rw [this]; simp, rfl⟩
theorem contI_any (A : Option Addr) (c : Nat) (l : List Int) (t : Int) (w : World) (hr : Rd w 1 A l.length (ints l)) (hm : l.length ≤ 9223372036854775807) :
    Calls Try.prog 78 #[.slice A l.length c, .int .i64 t] w fun e w' => e = .returned (.bool (l.contains t)) ∧ w = w' := by
  have H := indexI_any A c l t w hr hm
  go_enter Try.func78, Try.ntmps78
  go_wp2_with (go_at_call 91; refine H.mono ?_; rintro e w' ⟨r, rfl, hd, rfl⟩; have HD := Lib.hid hd; clear hd)
  go_ret;exact ⟨by rw [← HD.out]; rfl, rfl⟩
theorem stBad_any (n : Int) (w : World) :
    Calls Try.prog 46 #[.int .i64 n] w fun e w' => e = .returned (.bool (!within n 0 1000000)) ∧ w = w' := by
  go_enter Try.func46, Try.ntmps46
  go_wp2_with (go_at_call 39; refine (pWa _ _ _ _).mono ?_; rintro e w' ⟨rfl, rfl⟩)
  go_ret;exact ⟨rfl, rfl⟩
end Go.Proofs.Ytalcinepeofmcaa
