import Derived.WalkKit
import Derived.WalkSpells
import Derived.WalkLawsBesides
import Derived.Lib.Hide
import Derived.Laws.OwnMore
import Derived.Below
import Derived.Maps.AppendAt
import Derived.BigQuiet
import Derived.BigRegion
import Derived.Deep.QuietTactic
import Derived.Deep.RegionLaw
import Derived.Deep.RegionWith
import Derived.Deep.DeepCutAuto
import Derived.Deep.LoopGhost
import Derived.Deep.DeepFit
import Derived.Deep.Draws
import Derived.Deep.AppendLies
import Derived.Deep.CutBlock
import Derived.Deep.RegionLawGrows
import Derived.Test.YtalcinepeofmcaaGreatRows
import Derived.ProofKit
import Derived.OpenShut
import Derived.WideKeyArgs
import Derived.ChangeSame
import Derived.SizedLaws
import Derived.Deep.Slices
set_option linter.unusedVariables false
set_option linter.unusedSimpArgs false
set_option maxRecDepth 100000
set_option maxHeartbeats 40000000
namespace Go.Proofs.YtalcinepeofmcaaGreat
open Go Go.RowKit
def Rd (w : World) (size : Nat) (A : Option Addr) (n : Nat) (xs : List Value) : Prop :=
  xs.length = n * size ∧ (0 < n → ∃ b off, A = some ⟨b, off, none⟩ ∧ b < w.heap.size ∧ ∀ j u, xs[j]? = some u → w.cell? ⟨b, off + j, none⟩ = some u)
section
variable {w w' : World} {size n : Nat} {A : Option Addr} {xs : List Value}
theorem Rd.nil (w : World) (size : Nat) (A : Option Addr) : Rd w size A 0 [] := ⟨by simp, fun h => absurd h (by omega)⟩
theorem Rd.below (h : Rd w size A n xs) (hb : Below w.heap.size w w') : Rd w' size A n xs := by
  refine ⟨h.1, fun hn => ?_⟩;obtain ⟨b, off, e, hl, hc⟩ := h.2 hn;exact ⟨b, off, e, Nat.lt_of_lt_of_le hl hb.size, fun j u hu => (hb.cell (p := ⟨b, off + j, none⟩) hl).trans (hc j u hu)⟩
end
theorem bcell {w w' : World} (hb : Below w.heap.size w w') : (∀ b o, b < w.heap.size → w'.cell? ⟨b, o, none⟩ = w.cell? ⟨b, o, none⟩) ∧ (∀ b o, b < w.heap.size → w'.frozen? ⟨b, o, none⟩ = w.frozen? ⟨b, o, none⟩) :=
  ⟨fun b o h => hb.cell (p := ⟨b, o, none⟩) h, fun b o h => hb.frozen (p := ⟨b, o, none⟩) h⟩
structure Keep (S : List Nat) (w w' : World) : Prop where
  os : w'.os = w.os
  tape : w'.tape = w.tape
  output : w'.output = w.output
  size : w.heap.size ≤ w'.heap.size
  block : ∀ k, k < w.heap.size → k ∉ S → w'.heap[k]? = w.heap[k]?
section
variable {S S' : List Nat} {w w' w'' : World}
theorem Keep.refl (S : List Nat) (w : World) : Keep S w w := ⟨rfl, rfl, rfl, Nat.le_refl _, fun _ _ _ => rfl⟩
theorem Keep.trans (h : Keep S w w') (k : Keep S' w' w'') (hs : ∀ x ∈ S', x ∈ S ∨ w.heap.size ≤ x) : Keep S w w'' :=
  ⟨k.os.trans h.os, k.tape.trans h.tape, k.output.trans h.output, Nat.le_trans h.size k.size, fun i hi hn =>
    (k.block i (Nat.lt_of_lt_of_le hi h.size) (fun hm => by rcases hs i hm with h1 | h1; exact hn h1; omega)).trans (h.block i hi hn)⟩
theorem Keep.mono (h : Keep S w w') (hs : ∀ x ∈ S, x ∈ S' ∨ w.heap.size ≤ x) : Keep S' w w' :=
  ⟨h.os, h.tape, h.output, h.size, fun i hi hn => h.block i hi (fun hm => by rcases hs i hm with h1 | h1; exact hn h1; omega)⟩
theorem Keep.below (h : Keep S w w') {B : Nat} (hB : B ≤ w.heap.size) (hs : ∀ x ∈ S, B ≤ x) : Below B w w' :=
  ⟨h.os, h.tape, h.output, h.size, fun i hi => h.block i (by omega) (fun hm => by have := hs i hm; omega)⟩
theorem Keep.of_below (h : Below w.heap.size w w') : Keep S w w' := ⟨h.os, h.tape, h.output, h.size, fun i hi _ => h.block i hi⟩
theorem Keep.drew (h : Keep S w w') : Keep S w w'.drew := ⟨h.os, h.tape, h.output, h.size, h.block⟩
theorem Keep.drewN (h : Keep S w w') (n : Nat) : Keep S w (w'.drewN n) := ⟨h.os, h.tape, h.output, h.size, h.block⟩
theorem Keep.alloc (h : Keep S w w') (o : Obj) : Keep S w (w'.alloc o) :=
  ⟨h.os, h.tape, h.output, by have := h.size; simp; omega, fun i hi hn => by rw [Below.heap_alloc _ _ _ (by have := h.size; omega)]; exact h.block i hi hn⟩
theorem Keep.setCell (h : Keep S w w') {p : Addr} (hp : p.block ∈ S ∨ w.heap.size ≤ p.block) (u : Value) : Keep S w (w'.setCell p u) :=
  ⟨h.os, h.tape, h.output, by have := h.size; simpa [World.setCell] using this, fun i hi hn => by
    rw [Below.heap_setCell _ _ _ _ (fun e => by subst e; rcases hp with h1 | h1; exact hn h1; omega)]; exact h.block i hi hn⟩
end
theorem hS_ {w : World} {g : Nat} {cs : Array Value} {t : TypeId} {fr : Nat × Nat} (h : w.heap[g]? = some (.cells cs t fr)) (i : Nat) (u : Value) :
    (w.setCell ⟨g, i, none⟩ u).heap[g]? = some (.cells (cs.setIfInBounds i u) t fr) := by
  simp [World.setCell, Array.getElem?_modify, h]
theorem hSN {w : World} {g : Nat} {o : Option Obj} (h : w.heap[g]? = o) {p : Addr} (hp : g ≠ p.block) (u : Value) : (w.setCell p u).heap[g]? = o :=
  (Below.heap_setCell w p u g hp).trans h
theorem hL_ {w : World} {g : Nat} {o : Obj} (h : w.heap[g]? = some o) : g < w.heap.size := (Array.getElem?_eq_some_iff.1 h).1
theorem hA_ {w : World} {g : Nat} {o : Obj} (h : w.heap[g]? = some o) (o' : Obj) : (w.alloc o').heap[g]? = some o := (Below.heap_alloc w o' g (hL_ h)).trans h
theorem fOH {w : World} {g : Nat} {cs : Array Value} {t : TypeId} (h : w.heap[g]? = some (.cells cs t (0, 0))) (i : Nat) : w.frozen? ⟨g, i, none⟩ = false := by simp [World.frozen?, h]
theorem cOH {w : World} {g : Nat} {cs : Array Value} {t : TypeId} {fr : Nat × Nat} (h : w.heap[g]? = some (.cells cs t fr)) (i : Nat) : w.cell? ⟨g, i, none⟩ = cs[i]? := cell_of_row w g i cs t fr h
def OwnA (w : World) (e : TypeId) (A : Option Addr) (n c : Nat) (xs : List Value) (fp : List Nat) : Prop :=
  xs.length = n ∧ ((A = none ∧ n = 0 ∧ c = 0 ∧ fp = []) ∨
    ∃ g off cur, A = some ⟨g, off, none⟩ ∧ fp = [g] ∧ w.heap[g]? = some (.cells cur e (0, 0)) ∧ n ≤ c ∧ c ≤ 9223372036854775807 ∧ off + c = cur.size ∧ ∀ j u, xs[j]? = some u → cur[off + j]? = some u)
section
variable {w w' : World} {e : TypeId} {A : Option Addr} {n c : Nat} {xs : List Value} {fp : List Nat}
theorem OwnA.lt (h : OwnA w e A n c xs fp) : ∀ g ∈ fp, g < w.heap.size := by
  intro g hg;rcases h.2 with ⟨_, _, _, rfl⟩ | ⟨g', off, cur, rfl, rfl, hh, _⟩
  · simp at hg
  · obtain rfl : g = g' := by simpa using hg
    exact hL_ hh
theorem OwnA.ge (h : OwnA w e A n c xs fp) : n ≤ c := by
  rcases h.2 with ⟨_, rfl, rfl, _⟩ | ⟨g', off, cur, rfl, rfl, hh, h1, _⟩ <;> omega
theorem OwnA.keepS {S : List Nat} (h : OwnA w e A n c xs fp) (hk : Keep S w w') (hd : ∀ g ∈ fp, g ∉ S) : OwnA w' e A n c xs fp := by
  refine ⟨h.1, ?_⟩;rcases h.2 with h0 | ⟨g, off, cur, rfl, rfl, hh, r⟩
  · exact .inl h0
  · exact .inr ⟨g, off, cur, rfl, rfl, (hk.block g (hL_ hh) (hd g (by simp))).trans hh, r⟩
theorem OwnA.alloc (h : OwnA w e A n c xs fp) (o : Obj) : OwnA (w.alloc o) e A n c xs fp := h.keepS ((Keep.refl [] w).alloc o) (by simp)
theorem OwnA.drewN (h : OwnA w e A n c xs fp) (k : Nat) : OwnA (w.drewN k) e A n c xs fp := h
theorem OwnA.nil (w : World) (e : TypeId) : OwnA w e none 0 0 [] [] := ⟨rfl, .inl ⟨rfl, rfl, rfl, rfl⟩⟩
theorem OwnA.some_ (h : OwnA w e A n c xs fp) (hn : 0 < n) : ∃ g off, A = some ⟨g, off, none⟩ ∧ fp = [g] ∧ g < w.heap.size ∧ (∀ j u, xs[j]? = some u → w.cell? ⟨g, off + j, none⟩ = some u) ∧ (∀ j, w.frozen? ⟨g, j, none⟩ = false) := by
  rcases h.2 with ⟨_, h0, _⟩ | ⟨g, off, cur, rfl, rfl, hh, h1, h2, h3, h4⟩
  · omega
  · exact ⟨g, off, rfl, rfl, hL_ hh, fun j u hu => (cOH hh _).trans (h4 j u hu), fun j => fOH hh j⟩
theorem OwnA.rd (h : OwnA w e A n c xs fp) : Rd w 1 A n xs := by
  refine ⟨by rw [h.1]; omega, fun hn => ?_⟩;obtain ⟨g, off, e, _, hl, hc, _⟩ := h.some_ hn;exact ⟨g, off, e, hl, hc⟩
variable {P : Program}
theorem setCells_one (w : World) (b off : Nat) (u : Value) : w.setCells b off [u] = w.setCell ⟨b, off, none⟩ u := by
  simp [World.setCells]
theorem run_append_A (t ty : TypeId) (i : TypeInfo) (z : Value) (bytes : Nat) (ht : P.underlying t = some (.slice e)) (hi : P.info? e = some i) (hz : i.zero = some z)
    (hsize : i.size = 1) (hby : i.bytes = bytes) (hzs : z.cells.size = 1) (hown : OwnA w e A n c xs fp) (ad : Addr) (u : Value) (hu : w.cell? ad = some u) (h1 : u.oneCell' = true)
    (hn : n + 1 ≤ 1000000000000) (hbytes : bytes ≤ 100) :
    ∃ g off c' w', (Builtin.append_ #[t, t] ty #[.slice A n c, .slice (some ad) 1 1]).run P w = .ok (.slice (some ⟨g, off, none⟩) (n + 1) c') w' ∧
      OwnA w' e (some ⟨g, off, none⟩) (n + 1) c' (xs ++ [u]) [g] ∧ (g ∈ fp ∨ w.heap.size = g) ∧ g < w'.heap.size ∧ Keep fp w w' := by
  subst hby;have hb1 : (n + 1) * i.bytes ≤ 140737488355328 := Nat.le_trans (Nat.mul_le_mul hn hbytes) (by decide);have hnews : ∀ j v, [u][j]? = some v → w.cell? (ad.add j) = some v := by
    intro j v hv;cases j with
    | zero => simpa [Addr.add] using (by simpa using hv : u = v) ▸ hu
    | succ j => simp at hv
  have hl : [u].length = 1 * i.size := by simp [hsize]
  have h1' : ∀ v ∈ [u], v.oneCell' = true := by simpa using h1
  have hmx : n + 1 ≤ maxLen := by simp only [maxLen]; omega
  have grown : ∀ (old : Nat) (olds : List Value), olds = xs →
      OwnA (w.drew.alloc (.cells (olds.toArray ++ [u].toArray ++ Builtin.zeroCells z.cells (grownCap w (n + 1) old e - (n + 1))) e)) e (some ⟨w.heap.size, 0, none⟩) (n + 1) (grownCap w (n + 1) old e) (xs ++ [u]) [w.heap.size] := by
    rintro old olds rfl;have hge := grownCap_ge w (n + 1) old e;have hcm : grownCap w (n + 1) old e ≤ maxLen := grownCap_le_maxLen w (n + 1) old e hmx;simp only [maxLen] at hcm;refine ⟨by simp [hown.1], .inr ⟨_, 0, _, rfl, rfl, heap_alloc_new w.drew _, hge, hcm, ?_, ?_⟩⟩
    · simp only [Array.size_append, List.size_toArray, size_zeroCells, hzs, hown.1, List.length_singleton];omega
    · intro j v hv;have hlt : j < (olds ++ [u]).length := (List.getElem?_eq_some_iff.1 hv).1;rw [Nat.zero_add, Array.getElem?_append_left (by simpa using hlt)];simpa using hv
  have hkeep : ∀ o : Obj, Keep fp w (w.drew.alloc o) := fun o => ((Keep.refl fp w).drew).alloc o;rcases hown.2 with ⟨rfl, rfl, rfl, rfl⟩ | ⟨g, off, cur, rfl, rfl, hh, hnc, hcm, hcs, hat⟩
  · have hx : xs = [] := List.eq_nil_of_length_eq_zero hown.1;subst hx;have hr := run_append_nil (P := P) w t ty e i z ht hi hz ad 1 1 [u] hl hnews (by omega) (by omega) (by simp at hb1; omega);have hg := grown 0 [] rfl;simp only [Nat.zero_add, List.nil_append, Array.empty_append] at hg ⊢;exact ⟨_, 0, _, _, hr, hg, .inr rfl, by simp, hkeep _⟩
  · by_cases hroom : n + 1 ≤ c
    · have hlt : off + n < cur.size := by omega
      have hr := run_append_room_cells (P := P) w t ty e i ht hi g off n c ad 1 1 [u] hl hnews h1' hroom (by
        intro j hj;obtain rfl : j = 0 := by simpa using hj
        have hlt' : off + n * i.size + 0 < cur.size := by rw [hsize]; omega
        rw [cOH hh, Array.getElem?_eq_getElem hlt'];rfl) (by intro j hj; exact fOH hh _)
      refine ⟨g, off, c, _, hr, ⟨by simp [hown.1], .inr ⟨g, off, cur.setIfInBounds (off + n) u, rfl, rfl, ?_, hroom, hcm, by simp [hcs], ?_⟩⟩, .inl (by simp), ?_, ?_⟩
      · rw [setCells_one, hsize, Nat.mul_one];exact hS_ hh _ _
      · intro j v hv;rw [List.getElem?_append] at hv;split at hv
        · rename_i hj
          rw [Array.getElem?_setIfInBounds_ne (by have := hown.1; omega)];exact hat j v hv
        · rename_i hj
          have hj2 : j = n := by
            have h5 := (List.getElem?_eq_some_iff.1 hv).1;have h6 := hown.1;simp at h5;omega
          subst hj2;have h7 : u = v := by simpa [hown.1] using hv
          subst h7;simp [hlt]
      · rw [setCells_one];have := hL_ hh;simpa [World.setCell] using this
      · rw [setCells_one];exact (Keep.refl _ _).setCell (.inl (by simp)) _
    · have holds : ∀ j v, xs[j]? = some v → w.cell? ((⟨g, off, none⟩ : Addr).add j) = some v := by
        intro j v hv;rw [show (⟨g, off, none⟩ : Addr).add j = ⟨g, off + j, none⟩ from by simp [Addr.add]];exact (cOH hh _).trans (hat j v hv)
      have hr := run_append_grow (P := P) w t ty e i z ht hi hz ⟨g, off, none⟩ n c xs (by simp [hown.1, hsize]) holds ad 1 1 [u] hl hnews (by omega) (by omega) (growslice_fits (by omega) hb1);exact ⟨_, 0, _, _, hr, grown c xs rfl, .inr rfl, by simp, hkeep _⟩
theorem wp_append_A {o : Oper} {a : Act} {K : Act → World → Prop} {Q : Exit → Act → World → Prop} (s x : Operand) (t : TypeId)
    (ho : o.op = .call { callee := .builtin .append, args := #[s, x], argTypes := #[t, t] })
    (i : TypeInfo) (z : Value) (bytes : Nat) (ht : P.underlying t = some (.slice e)) (hi : P.info? e = some i) (hz : i.zero = some z)
    (hsize : i.size = 1) (hby : i.bytes = bytes) (hzs : z.cells.size = 1) (hs : a.eval s = .slice A n c) (ad : Addr) (hx : a.eval x = .slice (some ad) 1 1)
    (u : Value) (hown : OwnA w e A n c xs fp) (hu : w.cell? ad = some u) (h1 : u.oneCell' = true)
    (hn : n + 1 ≤ 1000000000000) (hbytes : bytes ≤ 100)
    (h : ∀ g off c' w', OwnA w' e (some ⟨g, off, none⟩) (n + 1) c' (xs ++ [u]) [g] → (g ∈ fp ∨ w.heap.size = g) → g < w'.heap.size → Keep fp w w' → K (a.put o.dst (.slice (some ⟨g, off, none⟩) (n + 1) c')) w') : o.wp P a w K Q := by
  obtain ⟨g, off, c', w', hr, h2, h3, h4, h5⟩ := run_append_A (P := P) t o.type i z bytes ht hi hz hsize hby hzs hown ad u hu h1 hn hbytes;unfold Oper.wp execOp;simp only [ho, resolve, invoke, builtin, Sem.run_bind, Sem.run_pure, Result.andThen_ok, List.map_toArray, List.map_cons, List.map_nil, hs, hx, hr];exact h g off c' w' h2 h3 h4 h5
theorem wpList_append_A {ops : Array Oper} {rest : List Oper} {o : Oper} {a : Act} {Q : Exit → Act → World → Prop} (hgd : o.guard = none) (s x : Operand) (t : TypeId)
    (ho : o.op = .call { callee := .builtin .append, args := #[s, x], argTypes := #[t, t] })
    (i : TypeInfo) (z : Value) (bytes : Nat) (ht : P.underlying t = some (.slice e)) (hi : P.info? e = some i) (hz : i.zero = some z)
    (hsize : i.size = 1) (hby : i.bytes = bytes) (hzs : z.cells.size = 1) (hs : a.eval s = .slice A n c) (ad : Addr) (hx : a.eval x = .slice (some ad) 1 1)
    (u : Value) (hown : OwnA w e A n c xs fp) (hu : w.cell? ad = some u) (h1 : u.oneCell' = true)
    (hn : n + 1 ≤ 1000000000000) (hbytes : bytes ≤ 100)
    (h : ∀ g off c' w', OwnA w' e (some ⟨g, off, none⟩) (n + 1) c' (xs ++ [u]) [g] → (g ∈ fp ∨ w.heap.size = g) → g < w'.heap.size → Keep fp w w' → wpList P ops Q rest (a.put o.dst (.slice (some ⟨g, off, none⟩) (n + 1) c')) w') : wpList P ops Q (o :: rest) a w :=
  wpList_plain hgd fun _ hK => wp_append_A s x t ho i z bytes ht hi hz hsize hby hzs hs ad hx u hown hu h1 hn hbytes fun g off c' w' h2 h3 h4 h5 => hK _ _ (h g off c' w' h2 h3 h4 h5)
end
end Go.Proofs.YtalcinepeofmcaaGreat
namespace Go.Proofs.YtalcinepeofmcaaGreat
open Go.ChangeShapes Go.WideShapes Go.ChangeAt Go.RowKit
theorem own : ownKnob Tryz.prog.godebug = none := by kernel_rfl
theorem laidOut : laidOutB Tryz.prog = true := by kernel_rfl
section
variable {H : Type} {enc : TypeId × Value → H} {P : Program}
theorem trodAll_stays (hl : laidOutB P = true) {W W' : World} {sp' : Nat → Bool} : ∀ {ts : List TypeId} {vs : List Value} {ds : List (DataW H)} {ps : List MemPlace}, ts.all (fun t => P.readableRec t && decide (t < P.types.size)) = true →
    DataW.TrodAll enc P W 0 (fun _ => true) true ts vs ds ps → (∀ p ∈ ps, W.sameAt W' p) → (∀ p ∈ ps, sp' p.block = true) → DataW.TrodAll enc P W' 0 sp' true ts vs ds ps
  | [], [], [], ps, _, h, _, _ => h
  | t :: ts, v :: vs, d :: ds, ps, hr, h, hsame, hs => by
    obtain ⟨p, q, h1, h2, rfl⟩ := h;simp only [List.all_cons, Bool.and_eq_true, decide_eq_true_eq] at hr;exact ⟨p, q, WideElems.Trod_stays hl hr.1.1 hr.1.2 h1 (fun x hx => hsame x (by simp [hx])) (fun x hx => hs x (by simp [hx])),
      trodAll_stays hl hr.2 h2 (fun x hx => hsame x (by simp [hx])) (fun x hx => hs x (by simp [hx])), rfl⟩
theorem law_post (hl : laidOutB P = true) {f : Func} {s : ChangeSpec} {fresh handsOn again : Bool} {W W' : World} {args : Array Value} {ds gs : List (DataW H)} {before : List MemPlace} {tb : TypeId}
    (hr : f.params.toList.all (fun t => P.readableRec t && decide (t < P.types.size)) = true) (hres : f.resultTypes = #[tb]) (htb : P.underlying tb = some .bool) (hvars : s.vars = []) (hs : s.fn H ds = { results := [.lit (.bool true)], args := ds })
    (hW : DataW.Whole enc P f.params.toList s.vars false W args.toList ds gs before) (hb : Below W.heap.size W W') :
    s.post enc P f false fresh handsOn again W args (.bool true) W' := by
  have hlt : ∀ p ∈ before, p.block < W.heap.size := fun p hp => hW.lt p hp;have hW0 := hW;obtain ⟨pa, pv, hA, hV, hps, hz, hn⟩ := hW;rw [hvars] at hV;obtain ⟨rfl, rfl⟩ := trodVars_none hV;have hfn : s.fn H (ds ++ []) = { results := [.lit (.bool true)], args := ds } := by rw [List.append_nil]; exact hs
  have hargs : ∀ sp : Nat → Bool, (∀ p ∈ before, sp p.block = true) → DataW.TrodAll enc P W' 0 sp true f.params.toList args.toList ds pa := fun sp hsp =>
    trodAll_stays hl hr hA (fun p hp => hb.same (hlt p (by rw [hps]; simp [hp]))) (fun p hp => hsp p (by rw [hps]; simp [hp]))
  have hr1 : ∀ (b : Nat) (sp : Nat → Bool) (hd : Bool), DataW.TrodAll enc P W' b sp hd f.resultTypes.toList ((Value.bool true).resultList f.resultTypes.size) [.lit (.bool true)] [] := fun b sp hd => by
    rw [hres]; exact (trodAll_cons_mk (shut_bool htb _) trodAll_mk0)
  have hold : ∀ p ∈ before, (fun b => decide (b < W.heap.size)) p.block = true := fun p hp => by simpa using hlt p hp
  have hvr : ∀ sp : Nat → Bool, DataW.TrodVars enc P W' sp s.vars [] [] := fun sp => by rw [hvars]; rfl
  refine ⟨ds, [], before, [], pa, [], hW0, ?_, ?_, ?_, World.keptBut_mono (fun p hp => ⟨hp, ?_⟩) (hb.frame (· ∈ before)), fun _ => ?_⟩
  · rw [hfn]; exact hr1 _ _ _
  · rw [hfn]; exact hargs _ hold
  · rw [hfn]; exact hvr _
  · rw [hps, List.append_nil] at hp;exact Or.inr (by simpa using hp)
  · refine ⟨ok_one hres rfl (okWide_bool_mk htb _), [.lit (.bool true)] ++ ds, [], ([] ++ pa) ++ [], ⟨[] ++ pa, [], ?_, hvr _, rfl, ?_, ?_⟩, ?_⟩
    · exact trodAll_append (hargs _ (fun _ _ => rfl)) (hr1 _ _ _)
    · intro b off hp;have hin : MemPlace.cell b off ∈ before := by rw [hps]; simpa using hp
      rw [hb.frozen (hlt _ hin)];exact hz b off hin
    · intro ha;cases ha
    · intro p hp _;rw [hps];simpa using hp
end
section
variable {H : Type} {enc : TypeId × Value → H} {P : Program} {W : World}
end
end Go.Proofs.YtalcinepeofmcaaGreat
namespace Go.Proofs.YtalcinepeofmcaaGreat
open Go Go.ChangeShapes Go.WideShapes Go.ChangeAt Go.RowKit
def LeafOk : Option IntKind → Value → Prop
  | none, v => ∃ b, v = .bool b
  | some k, v => ∃ n, v = .int k n ∧ (Lit.int k n).wf = true
def flatOk (P : Program) : Nat → TypeId → List (Option IntKind) → Bool
  | 0, _, _ => false
  | n + 1, t, ks =>
    match P.underlying t with
    | some .bool => decide (ks = [none])
    | some (.int k) => decide (ks = [some k])
    | some (.struct fs) => P.cellsOf t == ks.length && (fs.toList.all (fun f => flatOk P n f.type ((ks.drop f.offset).take (P.cellsOf f.type))) && (List.range ks.length).all fun j => fs.toList.any fun f => decide (f.offset ≤ j) && decide (j < f.offset + P.cellsOf f.type))
    | _ => false
section
variable {H : Type} {enc : TypeId × Value → H} {P : Program} {w : World} {base : Nat} {spare : Nat → Bool} {held : Bool}
theorem flat_cells : ∀ (n : Nat) (t : TypeId) (ks : List (Option IntKind)) (fuel : Nat) (cs : List Value) (x : DataW H × List MemPlace), flatOk P n t ks = true → DataW.trod enc P w base spare held fuel t cs = some x →
    cs.length = ks.length ∧ ∀ (j : Nat) (k : Option IntKind), ks[j]? = some k → ∃ v, cs[j]? = some v ∧ LeafOk k v
  | 0, _, _, _, _, _, h, _ => by simp [flatOk] at h
  | n + 1, t, ks, fuel, cs, x, h, ht => by
    unfold flatOk at h;split at h
    · rename_i hu
      obtain ⟨b, rfl, _⟩ := DataW.trod_bool hu ht;have hk : ks = [none] := by simpa using h
      subst hk;refine ⟨rfl, fun j k hj => ?_⟩;cases j with
      | zero => simp at hj; subst hj; exact ⟨_, rfl, b, rfl⟩
      | succ j => simp at hj
    · rename_i k0 hu
      obtain ⟨m, rfl, _, hw⟩ := DataW.trod_int hu ht;have hk : ks = [some k0] := by simpa using h
      subst hk;refine ⟨rfl, fun j k hj => ?_⟩;cases j with
      | zero => simp at hj; subst hj; exact ⟨_, rfl, m, rfl, hw⟩
      | succ j => simp at hj
    · rename_i fs hu
      obtain ⟨xs, m, rfl, _, hlen, hxl, hf⟩ := DataW.trod_struct hu ht;simp only [Bool.and_eq_true, beq_iff_eq, List.all_eq_true] at h;obtain ⟨h1, h2, h3⟩ := h;refine ⟨by omega, fun j k hj => ?_⟩;have hjl : j < ks.length := (List.getElem?_eq_some_iff.1 hj).1;obtain ⟨f, hfm, hfc⟩ := List.any_eq_true.1 (h3 j (List.mem_range.2 hjl));simp only [Bool.and_eq_true, decide_eq_true_eq] at hfc;obtain ⟨i, hi, rfl⟩ := List.mem_iff_getElem.1 hfm;have hi' : i < fs.size := by simpa using hi
      have hg := hf i fs[i] (Array.getElem?_eq_getElem hi');have hxi : i < xs.length := by omega
      rw [List.getElem?_eq_getElem hxi] at hg;have hfe : fs.toList[i] = fs[i] := by simp
      rw [hfe] at hfc;have hfo := h2 _ hfm;rw [hfe] at hfo;obtain ⟨e1, e2⟩ := flat_cells n _ _ _ _ _ hfo hg;obtain ⟨v, hv, hl⟩ := e2 (j - fs[i].offset) k (by rw [List.getElem?_take_of_lt (by omega), List.getElem?_drop, show fs[i].offset + (j - fs[i].offset) = j from by omega]; exact hj);rw [List.getElem?_take_of_lt (by omega), List.getElem?_drop, show fs[i].offset + (j - fs[i].offset) = j from by omega] at hv;exact ⟨v, hv, hl⟩
    · cases h
theorem open_rows {T : Type} [Inhabited T] {en : T → List Value} {G : T → Prop} {t e : TypeId} {size : Nat} (ht : P.underlying t = some (.slice e)) (hc : P.cellsOf e = size) (hs0 : 0 < size)
    (hel : ∀ (fuel : Nat) (cs : List Value) (x : DataW H × List MemPlace), DataW.trod enc P w 0 (fun _ => true) held fuel e cs = some x → ∃ y : T, cs = en y ∧ G y)
    {fuel : Nat} {cs : List Value} {x : DataW H × List MemPlace} (h : DataW.trod enc P w 0 (fun _ => true) held fuel t cs = some x) :
    ∃ (A : Option Addr) (c : Nat) (l : List T), cs = [.slice A l.length c] ∧ Rd w size A l.length (l.flatMap en) ∧ (∀ y ∈ l, G y) ∧ l.length ≤ c ∧ c ≤ 9223372036854775807 ∧ (A = none → l.length = 0 ∧ c = 0) := by
  rcases Go.Deep.open_slice ht h with ⟨rfl, _⟩ | ⟨a, len, cap, m, n, D, Pl, rfl, _, hlc, hcm, hm, _, hx⟩
  · exact ⟨none, 0, [], rfl, Rd.nil _ _ _, by simp, by simp, by simp, fun _ => ⟨rfl, rfl⟩⟩
  · rw [if_pos rfl] at hm;subst hm;have hx' : ∀ i, i < len → ∃ y : T, w.cells? 0 (a.add (i * size)) size = some (en y) ∧ G y := by
      intro i hi;obtain ⟨cs', h1, h2⟩ := hx i (by omega);obtain ⟨y, rfl, hG⟩ := hel _ _ _ h2;rw [hc] at h1;exact ⟨y, h1, hG⟩
    obtain ⟨f, hf⟩ := Go.Deep.choose_lt hx';have hlen : ((List.range len).map f).length = len := by simp
    have hens : ∀ i, i < len → (en (f i)).length = size := fun i hi => (World.cells?_some (hf i hi).1).2.1;unfold maxLen at hcm;refine ⟨some a, m, (List.range len).map f, by rw [hlen], ?_, ?_, by rw [hlen]; exact hlc, hcm, by simp⟩
    · rw [hlen];have hlenF : ∀ k, k ≤ len → (((List.range k).map f).flatMap en).length = k * size := by
        intro k;induction k with
        | zero => simp
        | succ k ih =>
          intro hk;rw [List.range_succ, List.map_append, List.flatMap_append, List.length_append, ih (by omega)];simp [hens k (by omega), Nat.add_mul]
      have hget : ∀ k, k ≤ len → ∀ i j, i < k → j < size → (((List.range k).map f).flatMap en)[i * size + j]? = (en (f i))[j]? := by
        intro k;induction k with
        | zero => intro _ i j hi; omega
        | succ k ih =>
          intro hk i j hi hj;rw [List.range_succ, List.map_append, List.flatMap_append];have hl := hlenF k (by omega);by_cases e : i = k
          · subst e;rw [List.getElem?_append_right (by omega), hl];simp [show i * size + j - i * size = j from by omega]
          · have : i * size + j < k * size := by
              have h5 : (i + 1) * size ≤ k * size := Nat.mul_le_mul_right _ (by omega);rw [Nat.add_mul] at h5;omega
            rw [List.getElem?_append_left (by omega)];exact ih (by omega) i j (by omega) hj
      refine ⟨hlenF len (Nat.le_refl _), fun hn => ?_⟩;have h0 := (World.cells?_some (hf 0 hn).1).2.2 0 hs0;have h00 : 0 < (en (f 0)).length := by rw [hens 0 hn]; exact hs0
      rw [Nat.zero_mul, List.getElem?_eq_getElem h00] at h0;obtain ⟨b, off, spot⟩ := a;have hspot : spot = none := by simpa [Addr.add] using World.cell?_spot h0
      subst hspot;refine ⟨b, off, rfl, ?_, fun j u hu => ?_⟩
      · have := World.block_lt_of_cell? _ _ h0;simpa [Addr.add] using this
      · have hj := (List.getElem?_eq_some_iff.1 hu).1;rw [hlenF len (Nat.le_refl _)] at hj;have hi : j / size < len := (Nat.div_lt_iff_lt_mul hs0).2 hj;have hr : j % size < size := Nat.mod_lt _ hs0;have hd : j = j / size * size + j % size := by rw [Nat.mul_comm]; exact (Nat.div_add_mod j size).symm
        have h1 := (World.cells?_some (hf (j / size) hi).1).2.2 (j % size) hr;have h2 := hget len (Nat.le_refl _) (j / size) (j % size) hi hr;rw [← hd] at h2;rw [h2] at hu;rw [hu] at h1;have e : (((⟨b, off, none⟩ : Addr).add (j / size * size)).add (j % size)) = ⟨b, off + j, none⟩ := by
          rw [Go.Deep.add_add, ← hd];by_cases h : j = 0
          · subst h; simp [Addr.add]
          · simp [Addr.add, h]
        rwa [e] at h1
    · intro y hy;obtain ⟨i, hi, rfl⟩ := List.mem_map.1 hy;exact (hf i (List.mem_range.1 hi)).2
theorem open_agg {r : Reach} {b0 : Nat} {t : TypeId} {fs : Array Field} {v : Value} {d : DataW H} {ps : List MemPlace} (ht : P.underlying t = some (.struct fs)) (hval : Value.okWide P w r b0 t v) (hd : DataW.Trod enc P w base spare held t v d ps) :
    ∃ cs, v = .agg cs ∧ ∃ fuel, DataW.trod enc P w base spare held fuel t cs.toList = some (d, ps) := by
  simp only [Value.okWide, ht] at hval;obtain ⟨cs, rfl, _⟩ := hval;obtain ⟨fuel, hf⟩ := hd;exact ⟨cs, rfl, fuel, by simpa [Value.cells] using hf⟩
end
end Go.Proofs.YtalcinepeofmcaaGreat
namespace Go.Proofs.YtalcinepeofmcaaGreat.Sp
def within (n lo hi : Int) : Bool := decide (lo ≤ n) && decide (n ≤ hi)
structure Stp where
  cls : Int
  ton : Int
  up : Int
  dn : Int
deriving DecidableEq, Inhabited
structure Pol where
  steps : List Stp
  hold : Int
  calm : Int
  notice : Int
  grace : Int
def upToN (l : List Int) (sev : Int) : Nat → Int
  | 0 => 0
  | n + 1 => if l.getD n 0 ≤ sev then (n : Int) else upToN l sev n
def upTo (l : List Int) (sev : Int) : Int := upToN l sev l.length
end Go.Proofs.YtalcinepeofmcaaGreat.Sp

namespace Go.Proofs.YtalcinepeofmcaaGreat
open Go Go.RowKit
section
variable {w w' : World} {e : TypeId} {n c : Nat} {xs : List Value} {fp : List Nat}
theorem Keep.cell {S : List Nat} (h : Keep S w w') {b o : Nat} {u : Value} (hc : w.cell? ⟨b, o, none⟩ = some u) (hn : b ∉ S) : w'.cell? ⟨b, o, none⟩ = some u :=
  (World.cell?_of_block (w := w) (h.block b (World.block_lt_of_cell? w _ hc) hn)).trans hc
theorem Keep.rd {S : List Nat} {size : Nat} {A : Option Addr} (h : Keep S w w') (hr : Rd w size A n xs) (hn : ∀ b off, A = some ⟨b, off, none⟩ → b ∉ S) : Rd w' size A n xs := by
  refine ⟨hr.1, fun h0 => ?_⟩;obtain ⟨b, off, e, hl, hc⟩ := hr.2 h0;exact ⟨b, off, e, Nat.lt_of_lt_of_le hl h.size, fun j u hu => h.cell (hc j u hu) (hn b off e)⟩
theorem Keep.below' {S : List Nat} (h : Keep S w w') {B : Nat} (hB : B ≤ w.heap.size) (hs : ∀ x ∈ S, B ≤ x) : Below B w w' := h.below hB hs
theorem OwnA.mem_ {A : Option Addr} (h : OwnA w e A n c xs fp) (h0 : 0 < n) {b off : Nat} (he : A = some ⟨b, off, none⟩) : b ∈ fp := by
  obtain ⟨g, o, e1, e2, _⟩ := h.some_ h0;rw [he] at e1;injection e1 with e1
  injection e1 with e1 _ _
  rw [e2, e1]; simp
theorem cell_new_one (w : World) (u : Value) (t : TypeId) : (w.alloc (.cells #[u] t)).cell? ⟨w.heap.size, 0, none⟩ = some u := by simp [World.cell?_alloc_new]
end
end Go.Proofs.YtalcinepeofmcaaGreat
namespace Go.Proofs.YtalcinepeofmcaaGreat.Pt
open Sp
structure Chn where
  grow : Int
  frost : Int
  clear : Int
deriving DecidableEq, Inhabited
structure Cal where
  hour : Int
  berth : Int
  out : Bool
  draught : Int
  most : Int
  tugs : Int
deriving DecidableEq, Inhabited
structure Swp where
  hour : Int
  channel : Int
  tugs : Int
deriving DecidableEq, Inhabited
structure Mp where
  add : Int
  floor : Int
  most : Int
deriving DecidableEq, Inhabited
structure Vst where
  arr : Int
  last : Int
  stay : Int
  dra : Int
deriving DecidableEq, Inhabited
structure Plc where
  berth : Int
  start : Int
deriving DecidableEq, Inhabited
abbrev NL : Int := 1000000000
def joinL (a m : Mp) : Int := if a.most < 0 ∨ m.most < 0 ∨ (m.most ≠ NL ∧ m.most < a.floor) then -1 else if m.most ≠ NL then max (-1) (min a.most (m.most - a.add)) else a.most
def join1 (a m : Mp) : Mp := ⟨a.add + m.add, max (a.floor + m.add) m.floor, joinL a m⟩
def small (m : Mp) : Prop := -200 ≤ m.add ∧ m.add ≤ 200 ∧ 0 ≤ m.floor ∧ m.floor ≤ 255 ∧ (m.most = -1 ∨ m.most = NL ∨ (0 ≤ m.most ∧ m.most ≤ 255))
theorem joinL_cases (a m : Mp) : (joinL a m = -1 ∧ (a.most < 0 ∨ m.most < 0 ∨ (m.most ≠ NL ∧ m.most < a.floor))) ∨
    ((0 ≤ a.most ∧ 0 ≤ m.most ∧ (m.most = NL ∨ a.floor ≤ m.most)) ∧ ((m.most ≠ NL ∧ ((a.most ≤ m.most - a.add ∧ joinL a m = a.most) ∨ (m.most - a.add < a.most ∧ -1 ≤ m.most - a.add ∧ joinL a m = m.most - a.add) ∨ (m.most - a.add < a.most ∧ m.most - a.add < -1 ∧ joinL a m = -1))) ∨ (m.most = NL ∧ joinL a m = a.most))) := by
  unfold joinL;split
  · left; omega
  · right;split
    · omega
    · omega
structure Brt where
  depth : Int
  path : List Int
deriving DecidableEq, Inhabited
structure Prt where
  chs : List Chn
  bts : List Brt
  tugs : Int
deriving DecidableEq, Inhabited
structure Pln where
  hours : Int
  calls : List Cal
  swps : List Swp
deriving DecidableEq, Inhabited
structure Stt where
  brash : List Int
  busy : List Bool
deriving DecidableEq, Inhabited
def getI (l : List Int) (i : Int) : Int := l.getD i.toNat 0
def setI (l : List Int) (i : Int) (x : Int) : List Int := l.set i.toNat x
def ch (p : Prt) (i : Int) : Chn := p.chs.getD i.toNat default
def bt (p : Prt) (i : Int) : Brt := p.bts.getD i.toNat default
def chOk (c : Chn) : Bool := within c.grow 0 100 && within c.frost 0 20 && within c.clear 1 200
def pathOk (n : Int) (l : List Int) : Nat → Bool
  | 0 => true
  | k + 1 => pathOk n l k && (within (l.getD k 0) 0 (n - 1) && !(l.take k).contains (l.getD k 0))
def btOk (n : Int) (b : Brt) : Bool := within b.depth 10 3000 && (!decide (b.path.length = 0) && pathOk n b.path b.path.length)
def checkP (p : Prt) : Int :=
  if (within p.chs.length 1 6 && within p.bts.length 1 4) = false then 2
  else if within p.tugs 0 20 = false then 100
  else if p.chs.all chOk = false then 100
  else if p.bts.all (btOk p.chs.length) = false then 100 else 0
def callE (p : Prt) (hours : Int) (c : Cal) (before : Int) : Int :=
  if (within c.berth 0 ((p.bts.length : Int) - 1) && (within c.most 0 1000000 && within c.tugs 0 20)) = false then 1
  else if within c.draught 10 (bt p c.berth).depth = false then 100
  else if within c.hour 0 (hours - 1) = false then 12
  else if c.hour < before then 11 else 0
def callsE (p : Prt) (hours : Int) : Int → List Cal → Int
  | _, [] => 0
  | before, c :: l => if callE p hours c before ≠ 0 then callE p hours c before else callsE p hours c.hour l
def swpE (p : Prt) (hours : Int) (s : Swp) : Int :=
  if (within s.channel 0 ((p.chs.length : Int) - 1) && within s.tugs 1 20) = false then 1
  else if within s.hour 0 (hours - 1) = false then 12 else 0
def swpsE (p : Prt) (hours : Int) : List Swp → Int
  | [] => 0
  | s :: l => if swpE p hours s ≠ 0 then swpE p hours s else swpsE p hours l
structure Tly where
  tugs : List Int
  twice : List Bool
  hits : List (Int × Int)
def hit1 (h : Int) (t : Tly) (n : Int) : Tly := ⟨t.tugs, t.twice.set h.toNat (t.twice.getD h.toNat false || decide (1 < (t.hits.count (h, n) + 1))), (h, n) :: t.hits⟩
def tlyCall (p : Prt) (t : Tly) (c : Cal) : Tly := (bt p c.berth).path.foldl (hit1 c.hour) ⟨setI t.tugs c.hour (getI t.tugs c.hour + c.tugs), t.twice, t.hits⟩
def tly0 (hours : Nat) : Tly := ⟨List.replicate hours 0, List.replicate hours false, []⟩
def tlyCalls (p : Prt) (hours : Nat) (l : List Cal) : Tly := l.foldl (tlyCall p) (tly0 hours)
def addSwp (t : List Int) (s : Swp) : List Int := setI t s.hour (getI t s.hour + s.tugs)
def finE (tg : Int) (ts : List Int) (tw : List Bool) : Nat → Nat → Int
  | _, 0 => 0
  | k, n + 1 => if tw.getD k false then 10 else if tg < ts.getD k 0 then 9 else finE tg ts tw (k + 1) n
def checkL (p : Prt) (l : Pln) : Int :=
  if checkP p ≠ 0 then checkP p
  else if 60 < l.calls.length ∨ 200 < l.swps.length then 2
  else if within l.hours 1 100 = false then 6
  else if callsE p l.hours 0 l.calls ≠ 0 then callsE p l.hours 0 l.calls
  else if swpsE p l.hours l.swps ≠ 0 then swpsE p l.hours l.swps
  else finE p.tugs (l.swps.foldl addSwp (tlyCalls p l.hours.toNat l.calls).tugs) (tlyCalls p l.hours.toNat l.calls).twice 0 l.hours.toNat
def startE (p : Prt) (s : Stt) (l : Pln) : Int :=
  if checkL p l ≠ 0 then checkL p l
  else if s.brash.length ≠ p.chs.length ∨ s.busy.length ≠ p.bts.length ∨ s.brash.any (fun n => !within n 0 1000000) = true then 1 else 0
def swp1 (p : Prt) (h : Int) (b : List Int) (s : Swp) : List Int := if s.hour = h then setI b s.channel (max 0 (getI b s.channel - s.tugs * (ch p s.channel).clear)) else b
def swpN (p : Prt) (h : Int) (l : List Swp) (b : List Int) : List Int := l.foldl (swp1 p h) b
def grow1 (p : Prt) (b : List Int) (n : Int) : List Int := setI b n (getI b n + (ch p n).grow)
def growN (p : Prt) (path : List Int) (b : List Int) : List Int := path.foldl (grow1 p) b
def callsN (p : Prt) (h : Int) : List Cal → Nat → Stt → Nat × Int × Stt
  | [], i, s => (i, 0, s)
  | c :: l, i, s =>
    if c.hour ≠ h then callsN p h l (i + 1) s
    else if s.busy.getD c.berth.toNat false ≠ c.out then (i, 9, s)
    else if (bt p c.berth).path.any (fun n => decide (c.most < getI s.brash n)) = true then (i, 8, s)
    else callsN p h l (i + 1) ⟨growN p (bt p c.berth).path s.brash, s.busy.set c.berth.toNat (!c.out)⟩
def frostN (p : Prt) (b : List Int) : Nat → List Int
  | 0 => b
  | k + 1 => setI (frostN p b k) k (getI (frostN p b k) k + (ch p k).frost)
def frostL (p : Prt) (b : List Int) : List Int := frostN p b p.chs.length
def hourR (p : Prt) (l : Pln) (h : Nat) (s : Stt) : Nat × Int × Stt := callsN p h l.calls 0 ⟨swpN p h l.swps s.brash, s.busy⟩
def hourS (p : Prt) (l : Pln) (h : Nat) (s : Stt) : Stt := ⟨frostL p (hourR p l h s).2.2.brash, (hourR p l h s).2.2.busy⟩
def stN (p : Prt) (l : Pln) (s : Stt) : Nat → Stt
  | 0 => s
  | k + 1 => hourS p l k (stN p l s k)
def runF (p : Prt) (l : Pln) (s : Stt) : Nat → Nat → Nat × Int
  | _, 0 => (l.calls.length, 0)
  | k, n + 1 => if (hourR p l k (stN p l s k)).2.1 ≠ 0 then ((hourR p l k (stN p l s k)).1, (hourR p l k (stN p l s k)).2.1) else runF p l s (k + 1) n
def runR (p : Prt) (l : Pln) (s : Stt) : Nat × Int := runF p l s 0 l.hours.toNat
def mapsH (p : Prt) (l : Pln) (c : Int) (h : Nat) : List Mp :=
  (l.swps.filter fun s => decide (s.hour = (h : Int)) && decide (s.channel = c)).map (fun s => ⟨-s.tugs * (ch p c).clear, 0, NL⟩)
  ++ ((l.calls.filter fun x => decide (x.hour = (h : Int)) && (bt p x.berth).path.contains c).map (fun x => ⟨(ch p c).grow, (ch p c).grow, x.most⟩)
  ++ [⟨(ch p c).frost, (ch p c).frost, NL⟩])
def mapsS (p : Prt) (l : Pln) (c : Int) : List Mp := (List.range l.hours.toNat).flatMap (mapsH p l c)
def id1 : Mp := ⟨0, 0, NL⟩
def foldS (p : Prt) (l : Pln) (c : Int) : Mp := (mapsS p l c).foldl join1 id1
def foldE (p : Prt) (l : Pln) (c : Int) : Int := if checkL p l ≠ 0 then checkL p l else if within c 0 ((p.chs.length : Int) - 1) = false then 1 else 0
def turnsL : List Bool → Bool
  | [] => true
  | [_] => true
  | a :: b :: l => decide (a ≠ b) && turnsL (b :: l)
def outsOf (l : Pln) (b : Int) : List Bool := (l.calls.filter fun c => decide (c.berth = b)).map (·.out)
def turnsB (l : Pln) (b : Int) : Bool := turnsL (outsOf l b) && decide ((outsOf l b).length % 2 = 0)
def turnsN (l : Pln) : Nat → Bool
  | 0 => true
  | k + 1 => turnsN l k && turnsB l k
def turns (p : Prt) (l : Pln) : Bool := turnsN l p.bts.length
def staysBad (m : Mp) : Bool := decide (m.most ≠ NL) && (decide (0 < m.add) || decide (m.most < m.floor))
def folds (p : Prt) (l : Pln) : List Mp := (List.range p.chs.length).map fun (c : Nat) => foldS p l c
def staysE (p : Prt) (l : Pln) : Int :=
  if checkL p l ≠ 0 then checkL p l else if turns p l = false then 9 else if (folds p l).any staysBad = true then 4 else 0
def staysV (p : Prt) (l : Pln) : List Int := if staysE p l = 0 then (folds p l).map (·.most) else []
def rounds (m : Mp) : Int :=
  if m.most = NL ∨ (m.add ≤ 0 ∧ max m.add m.floor ≤ m.most) then -1
  else if m.most < 0 then 0
  else if m.most < max m.add m.floor then 1
  else 2 + (m.most - max m.add m.floor).tdiv m.add
def wornN (l : List Mp) : Nat → Int × Int
  | 0 => (-1, 0)
  | k + 1 => let n := rounds (l.getD k default); if 0 ≤ n ∧ ((wornN l k).1 < 0 ∨ n < (wornN l k).1) then (n, (k : Int)) else wornN l k
def wornR (p : Prt) (l : Pln) : Int × Int := wornN (folds p l) p.chs.length
def wornE (p : Prt) (l : Pln) : Int := if checkL p l ≠ 0 then checkL p l else if (wornR p l).1 < 0 then 4 else 0
end Go.Proofs.YtalcinepeofmcaaGreat.Pt
namespace Go.Proofs.YtalcinepeofmcaaGreat
open Go
def ints (l : List Int) : List Value := l.map (Value.int .i64)
theorem iG_ {l : List Int} {k : Nat} (h : k < l.length) : (ints l)[k]? = some (.int .i64 (l.getD k 0)) := by simp [ints, h]
def bools (l : List Bool) : List Value := l.map Value.bool
theorem bools_get {l : List Bool} {k : Nat} (h : k < l.length) : (bools l)[k]? = some (.bool (l.getD k false)) := by simp [bools, h]
end Go.Proofs.YtalcinepeofmcaaGreat
namespace Go.Proofs.YtalcinepeofmcaaGreat
open Go Go.RowKit Sp Pt
theorem flat_get {T : Type} {f : T → List Value} {s : Nat} (hf : ∀ x, (f x).length = s) {l : List T} {k : Nat} (hk : k < l.length) {j : Nat} (hj : j < s) : (l.flatMap f)[k*s + j]? = (f l[k])[j]? := by
  induction l generalizing k with
  | nil => simp at hk
  | cons x l ih =>
    rw [List.flatMap_cons];cases k with
    | zero => rw [Nat.zero_mul, Nat.zero_add, List.getElem?_append_left (by rw [hf]; exact hj)]; rfl
    | succ k =>
      have e : (k+1)*s + j = s + (k*s + j) := by rw [Nat.add_mul]; omega
      rw [e, List.getElem?_append_right (by rw [hf]; omega), hf, Nat.add_sub_cancel_left];simpa using ih (k := k) (by simpa using hk)
theorem flat_len {T : Type} {f : T → List Value} {s : Nat} (hf : ∀ x, (f x).length = s) (l : List T) : (l.flatMap f).length = l.length * s := by
  induction l with
  | nil => simp
  | cons x l ih => rw [List.flatMap_cons, List.length_append, ih, hf, List.length_cons, Nat.add_mul]; omega
theorem flat_snoc {T : Type} (f : T → List Value) (l : List T) (x : T) : (l ++ [x]).flatMap f = l.flatMap f ++ f x := by simp
def RdB (D : Nat) (w : World) (size : Nat) (A : Option Addr) (n : Nat) (xs : List Value) : Prop :=
  xs.length = n * size ∧ (0 < n → ∃ b off, A = some ⟨b, off, none⟩ ∧ b < D ∧ ∀ j u, xs[j]? = some u → w.cell? ⟨b, off + j, none⟩ = some u)
section
variable {D : Nat} {w w' : World} {size n : Nat} {A : Option Addr} {xs : List Value}
theorem RdB.rd (h : RdB D w size A n xs) (hD : D ≤ w.heap.size) : Rd w size A n xs :=
  ⟨h.1, fun h0 => by obtain ⟨b, off, e, hb, hc⟩ := h.2 h0; exact ⟨b, off, e, by omega, hc⟩⟩
theorem RdB.of (h : Rd w size A n xs) (hD : w.heap.size ≤ D) : RdB D w size A n xs :=
  ⟨h.1, fun h0 => by obtain ⟨b, off, e, hb, hc⟩ := h.2 h0; exact ⟨b, off, e, by omega, hc⟩⟩
theorem RdB.below (h : RdB D w size A n xs) (hb : Below D w w') : RdB D w' size A n xs :=
  ⟨h.1, fun h0 => by obtain ⟨b, off, e, hl, hc⟩ := h.2 h0; exact ⟨b, off, e, hl, fun j u hu => (hb.cell (p := ⟨b, off + j, none⟩) hl).trans (hc j u hu)⟩⟩
theorem RdB.mono (h : RdB D w size A n xs) {D' : Nat} (hD : D ≤ D') : RdB D' w size A n xs :=
  ⟨h.1, fun h0 => by obtain ⟨b, off, e, hb, hc⟩ := h.2 h0; exact ⟨b, off, e, by omega, hc⟩⟩
end
def chc (c : Chn) : List Value := [.int .i64 c.grow, .int .i64 c.frost, .int .i64 c.clear]
abbrev chcs (l : List Chn) : List Value := l.flatMap chc
def cac (c : Cal) : List Value := [.int .i64 c.hour, .int .i64 c.berth, .bool c.out, .int .i64 c.draught, .int .i64 c.most, .int .i64 c.tugs]
abbrev cacs (l : List Cal) : List Value := l.flatMap cac
def swc (s : Swp) : List Value := [.int .i64 s.hour, .int .i64 s.channel, .int .i64 s.tugs]
abbrev swcs (l : List Swp) : List Value := l.flatMap swc
def vsc (v : Vst) : List Value := [.int .i64 v.arr, .int .i64 v.last, .int .i64 v.stay, .int .i64 v.dra]
abbrev vscs (l : List Vst) : List Value := l.flatMap vsc
def plc (x : Plc) : List Value := [.int .i64 x.berth, .int .i64 x.start]
abbrev plcs (l : List Plc) : List Value := l.flatMap plc
theorem chcs_get {l : List Chn} {k : Nat} (hk : k < l.length) : (chcs l)[k*3]? = some (.int .i64 l[k].grow) ∧ (chcs l)[k*3+1]? = some (.int .i64 l[k].frost) ∧ (chcs l)[k*3+2]? = some (.int .i64 l[k].clear) :=
  ⟨flat_get (f := chc) (s := 3) (fun _ => rfl) hk (j := 0) (by decide), flat_get (f := chc) (s := 3) (fun _ => rfl) hk (j := 1) (by decide), flat_get (f := chc) (s := 3) (fun _ => rfl) hk (j := 2) (by decide)⟩
theorem cacs_get {l : List Cal} {k : Nat} (hk : k < l.length) : (cacs l)[k*6]? = some (.int .i64 l[k].hour) ∧ (cacs l)[k*6+1]? = some (.int .i64 l[k].berth) ∧ (cacs l)[k*6+2]? = some (.bool l[k].out) ∧ (cacs l)[k*6+3]? = some (.int .i64 l[k].draught) ∧ (cacs l)[k*6+4]? = some (.int .i64 l[k].most) ∧ (cacs l)[k*6+5]? = some (.int .i64 l[k].tugs) :=
  ⟨flat_get (f := cac) (s := 6) (fun _ => rfl) hk (j := 0) (by decide), flat_get (f := cac) (s := 6) (fun _ => rfl) hk (j := 1) (by decide), flat_get (f := cac) (s := 6) (fun _ => rfl) hk (j := 2) (by decide), flat_get (f := cac) (s := 6) (fun _ => rfl) hk (j := 3) (by decide), flat_get (f := cac) (s := 6) (fun _ => rfl) hk (j := 4) (by decide), flat_get (f := cac) (s := 6) (fun _ => rfl) hk (j := 5) (by decide)⟩
theorem swcs_get {l : List Swp} {k : Nat} (hk : k < l.length) : (swcs l)[k*3]? = some (.int .i64 l[k].hour) ∧ (swcs l)[k*3+1]? = some (.int .i64 l[k].channel) ∧ (swcs l)[k*3+2]? = some (.int .i64 l[k].tugs) :=
  ⟨flat_get (f := swc) (s := 3) (fun _ => rfl) hk (j := 0) (by decide), flat_get (f := swc) (s := 3) (fun _ => rfl) hk (j := 1) (by decide), flat_get (f := swc) (s := 3) (fun _ => rfl) hk (j := 2) (by decide)⟩
theorem vscs_get {l : List Vst} {k : Nat} (hk : k < l.length) : (vscs l)[k*4]? = some (.int .i64 l[k].arr) ∧ (vscs l)[k*4+1]? = some (.int .i64 l[k].last) ∧ (vscs l)[k*4+2]? = some (.int .i64 l[k].stay) ∧ (vscs l)[k*4+3]? = some (.int .i64 l[k].dra) :=
  ⟨flat_get (f := vsc) (s := 4) (fun _ => rfl) hk (j := 0) (by decide), flat_get (f := vsc) (s := 4) (fun _ => rfl) hk (j := 1) (by decide), flat_get (f := vsc) (s := 4) (fun _ => rfl) hk (j := 2) (by decide), flat_get (f := vsc) (s := 4) (fun _ => rfl) hk (j := 3) (by decide)⟩
theorem plcs_get {l : List Plc} {k : Nat} (hk : k < l.length) : (plcs l)[k*2]? = some (.int .i64 l[k].berth) ∧ (plcs l)[k*2+1]? = some (.int .i64 l[k].start) :=
  ⟨flat_get (f := plc) (s := 2) (fun _ => rfl) hk (j := 0) (by decide), flat_get (f := plc) (s := 2) (fun _ => rfl) hk (j := 1) (by decide)⟩
def PathB (D : Nat) (w : World) (A : Option Addr) (c : Nat) (l : List Int) : Prop := RdB D w 1 A l.length (ints l) ∧ l.length ≤ c ∧ c ≤ 9223372036854775807 ∧ (A = none → c = 0)
def BtsB (D : Nat) (w : World) (A : Option Addr) (l : List Brt) : Prop :=
  ∀ (k : Nat) (hk : k < l.length), ∃ b off Ak ck, A = some ⟨b, off, none⟩ ∧ b < D ∧ w.cell? ⟨b, off + k*2, none⟩ = some (.int .i64 l[k].depth) ∧ w.cell? ⟨b, off + k*2 + 1, none⟩ = some (.slice Ak l[k].path.length ck) ∧ PathB D w Ak ck l[k].path
section
variable {D : Nat} {w w' : World} {A : Option Addr}
theorem PathB.below {c : Nat} {l : List Int} (h : PathB D w A c l) (hb : Below D w w') : PathB D w' A c l := ⟨h.1.below hb, h.2⟩
theorem PathB.mono {c : Nat} {l : List Int} (h : PathB D w A c l) {D' : Nat} (hD : D ≤ D') : PathB D' w A c l := ⟨h.1.mono hD, h.2⟩
theorem BtsB.below {l : List Brt} (h : BtsB D w A l) (hb : Below D w w') : BtsB D w' A l := by
  intro k hk;obtain ⟨b, off, Ak, ck, e, hlt, h1, h2, h3⟩ := h k hk;exact ⟨b, off, Ak, ck, e, hlt, (hb.cell (p := ⟨b, off + k*2, none⟩) hlt).trans h1, (hb.cell (p := ⟨b, off + k*2 + 1, none⟩) hlt).trans h2, h3.below hb⟩
theorem BtsB.mono {l : List Brt} (h : BtsB D w A l) {D' : Nat} (hD : D ≤ D') : BtsB D' w A l := by
  intro k hk;obtain ⟨b, off, Ak, ck, e, hlt, h1, h2, h3⟩ := h k hk;exact ⟨b, off, Ak, ck, e, by omega, h1, h2, h3.mono hD⟩
end
abbrev prtV (Ac : Option Addr) (cc : Nat) (Ab : Option Addr) (cb : Nat) (p : Prt) : Array Value := #[.slice Ac p.chs.length cc, .slice Ab p.bts.length cb, .int .i64 p.tugs]
structure PrtB (D : Nat) (w : World) (Ac : Option Addr) (cc : Nat) (Ab : Option Addr) (cb : Nat) (p : Prt) : Prop where
  chs : RdB D w 3 Ac p.chs.length (chcs p.chs)
  bts : BtsB D w Ab p.bts
  c1 : p.chs.length ≤ cc ∧ cc ≤ 9223372036854775807 ∧ (Ac = none → cc = 0)
  c2 : p.bts.length ≤ cb ∧ cb ≤ 9223372036854775807 ∧ (Ab = none → cb = 0)
abbrev plnV (Al : Option Addr) (cl : Nat) (As : Option Addr) (cs : Nat) (l : Pln) : Array Value := #[.int .i64 l.hours, .slice Al l.calls.length cl, .slice As l.swps.length cs]
structure PlnB (D : Nat) (w : World) (Al : Option Addr) (cl : Nat) (As : Option Addr) (cs : Nat) (l : Pln) : Prop where
  calls : RdB D w 6 Al l.calls.length (cacs l.calls)
  swps : RdB D w 3 As l.swps.length (swcs l.swps)
  c1 : l.calls.length ≤ cl ∧ cl ≤ 9223372036854775807 ∧ (Al = none → cl = 0)
  c2 : l.swps.length ≤ cs ∧ cs ≤ 9223372036854775807 ∧ (As = none → cs = 0)
section
variable {D : Nat} {w w' : World} {Ac Ab Al As : Option Addr} {cc cb cl cs : Nat} {p : Prt} {l : Pln}
theorem PrtB.below (h : PrtB D w Ac cc Ab cb p) (hb : Below D w w') : PrtB D w' Ac cc Ab cb p := ⟨h.chs.below hb, h.bts.below hb, h.c1, h.c2⟩
theorem PrtB.mono (h : PrtB D w Ac cc Ab cb p) {D' : Nat} (hD : D ≤ D') : PrtB D' w Ac cc Ab cb p := ⟨h.chs.mono hD, h.bts.mono hD, h.c1, h.c2⟩
theorem PlnB.below (h : PlnB D w Al cl As cs l) (hb : Below D w w') : PlnB D w' Al cl As cs l := ⟨h.calls.below hb, h.swps.below hb, h.c1, h.c2⟩
theorem PlnB.mono (h : PlnB D w Al cl As cs l) {D' : Nat} (hD : D ≤ D') : PlnB D' w Al cl As cs l := ⟨h.calls.mono hD, h.swps.mono hD, h.c1, h.c2⟩
end
end Go.Proofs.YtalcinepeofmcaaGreat
namespace Go.Proofs.YtalcinepeofmcaaGreat
open Go Go.RowKit Sp Pt
structure BrR where
  b : Brt
  A : Option Addr
  c : Nat
deriving Inhabited
def brc (y : BrR) : List Value := [.int .i64 y.b.depth, .slice y.A y.b.path.length y.c]
abbrev brcs (l : List BrR) : List Value := l.flatMap brc
theorem brcs_one (l : List BrR) : ∀ u ∈ brcs l, u.oneCell' = true := by
  intro u hu;obtain ⟨y, _, hy⟩ := List.mem_flatMap.1 hu;simp [brc] at hy;rcases hy with rfl | rfl <;> rfl
theorem brcs_get {l : List BrR} {k : Nat} (hk : k < l.length) : (brcs l)[k*2]? = some (.int .i64 l[k].b.depth) ∧ (brcs l)[k*2+1]? = some (.slice l[k].A l[k].b.path.length l[k].c) :=
  ⟨flat_get (f := brc) (s := 2) (fun _ => rfl) hk (j := 0) (by decide), flat_get (f := brc) (s := 2) (fun _ => rfl) hk (j := 1) (by decide)⟩
theorem brcs_len (l : List BrR) : (brcs l).length = l.length * 2 := flat_len (f := brc) (s := 2) (fun _ => rfl) l
theorem BtsB.rows {D : Nat} {w : World} {A : Option Addr} {l : List Brt} (h : BtsB D w A l) :
    ∃ L : List BrR, L.map (·.b) = l ∧ RdB D w 2 A l.length (brcs L) ∧ ∀ y ∈ L, PathB D w y.A y.c y.b.path := by
  by_cases h0 : l = []
  · subst h0;exact ⟨[], rfl, ⟨rfl, fun h => absurd h (by simp)⟩, by simp⟩
  have hn : 0 < l.length := List.length_pos_iff.2 h0;obtain ⟨b, off, _, _, hA, hb, _⟩ := h 0 hn;have key : ∀ k : Fin l.length, ∃ y : BrR, y.b = l[k.1] ∧ w.cell? ⟨b, off + k.1*2, none⟩ = some (.int .i64 l[k.1].depth) ∧ w.cell? ⟨b, off + k.1*2 + 1, none⟩ = some (.slice y.A l[k.1].path.length y.c) ∧ PathB D w y.A y.c l[k.1].path := by
    intro k;obtain ⟨b', off', Ak, ck, e, _, h1, h2, h3⟩ := h k.1 k.2;rw [hA] at e;injection e with e
    injection e with e1 e2 _
    subst e1 e2;exact ⟨⟨l[k.1], Ak, ck⟩, rfl, h1, h2, h3⟩
  obtain ⟨f, hf⟩ := Classical.axiomOfChoice key;have hlen : (List.ofFn f).length = l.length := by simp
  have hget : ∀ k (hk : k < l.length), (List.ofFn f)[k]'(by rw [hlen]; exact hk) = f ⟨k, hk⟩ := fun k hk => by simp
  refine ⟨List.ofFn f, ?_, ⟨by rw [brcs_len, hlen], fun _ => ⟨b, off, hA, hb, fun j u hu => ?_⟩⟩, fun y hy => ?_⟩
  · refine List.ext_getElem (by simp) fun k h1 h2 => ?_;simp only [List.getElem_map, List.getElem_ofFn];exact (hf ⟨k, h2⟩).1
  · have hj := (List.getElem?_eq_some_iff.1 hu).1;rw [brcs_len, hlen] at hj;have hk : j / 2 < l.length := by omega
    obtain ⟨g0, g1⟩ := brcs_get (l := List.ofFn f) (k := j / 2) (by rw [hlen]; exact hk);obtain ⟨e0, e1, e2, _⟩ := hf ⟨j / 2, hk⟩;rw [hget _ hk, e0] at g0 g1;rcases (by omega : j % 2 = 0 ∨ j % 2 = 1) with h | h
    · rw [show j = j / 2 * 2 from by omega, g0] at hu;injection hu with hu
      rw [show j = j / 2 * 2 from by omega, ← hu];exact e1
    · rw [show j = j / 2 * 2 + 1 from by omega, g1] at hu;injection hu with hu
      rw [show off + j = off + j / 2 * 2 + 1 from by omega, ← hu];exact e2
  · obtain ⟨k, rfl⟩ := (List.mem_ofFn).1 hy;obtain ⟨e0, _, _, e3⟩ := hf k;rw [e0];exact e3
theorem BtsB.of_rows {D : Nat} {w : World} {A : Option Addr} {l : List Brt} {L : List BrR} (hm : L.map (·.b) = l) (hr : RdB D w 2 A l.length (brcs L)) (hp : ∀ y ∈ L, PathB D w y.A y.c y.b.path) : BtsB D w A l := by
  intro k hk;have hk' : k < L.length := by rw [← hm] at hk; simpa using hk
  have e : L[k].b = l[k] := by subst hm; simp
  obtain ⟨b, off, hA, hb, hc⟩ := hr.2 (by omega);obtain ⟨g0, g1⟩ := brcs_get hk';rw [e] at g0 g1;have := hp _ (List.getElem_mem hk');rw [e] at this;exact ⟨b, off, L[k].A, L[k].c, hA, hb, hc _ _ g0, by rw [Nat.add_assoc]; exact hc _ _ g1, this⟩
end Go.Proofs.YtalcinepeofmcaaGreat
namespace Go.Proofs.YtalcinepeofmcaaGreat
open Go Go.ChangeShapes Go.WideShapes Go.ChangeAt Go.RowKit Sp Pt
theorem flat_intsP (l : List Int) : l.flatMap (fun y => [Value.int .i64 y]) = ints l := by
  induction l with
  | nil => rfl
  | cons x l ih => rw [List.flatMap_cons, ih]; rfl
section
variable {H : Type} {enc : TypeId × Value → H} {w : World}
theorem elp_int : ∀ (fuel : Nat) (cs : List Value) (x : DataW H × List MemPlace), DataW.trod enc Tryz.prog w 0 (fun _ => true) true fuel 3 cs = some x → ∃ y : Int, cs = [Value.int .i64 y] ∧ True := by
  intro fuel cs x h;obtain ⟨n, rfl, _⟩ := DataW.trod_int Tryz.underlying3 h;exact ⟨n, rfl, trivial⟩
theorem el_chn : ∀ (fuel : Nat) (cs : List Value) (x : DataW H × List MemPlace), DataW.trod enc Tryz.prog w 0 (fun _ => true) true fuel 99 cs = some x → ∃ y : Chn, cs = chc y ∧ True := by
  intro fuel cs x h;obtain ⟨h1, h2⟩ := flat_cells 3 99 [some .i64, some .i64, some .i64] fuel cs x (by kernel_rfl) h;obtain ⟨_, e0, a0, rfl, _⟩ := h2 0 _ rfl;obtain ⟨_, e1, a1, rfl, _⟩ := h2 1 _ rfl;obtain ⟨_, e2, a2, rfl, _⟩ := h2 2 _ rfl
  match cs, h1, e0, e1, e2 with
  | [_, _, _], _, e0, e1, e2 =>
    simp at e0 e1 e2;exact ⟨⟨a0, a1, a2⟩, by rw [e0, e1, e2]; rfl, trivial⟩
theorem el_brt : ∀ (fuel : Nat) (cs : List Value) (x : DataW H × List MemPlace), DataW.trod enc Tryz.prog w 0 (fun _ => true) true fuel 83 cs = some x →
    ∃ y : BrR, cs = brc y ∧ (Rd w 1 y.A y.b.path.length (ints y.b.path) ∧ y.b.path.length ≤ y.c ∧ y.c ≤ 9223372036854775807 ∧ (y.A = none → y.c = 0)) := by
  intro fuel cs x h;obtain ⟨xs, m, rfl, _, hlen, hxl, hf⟩ := DataW.trod_struct Tryz.underlying83 h;have hc : Tryz.prog.cellsOf 83 = 2 := by kernel_rfl
  have hi : Tryz.prog.cellsOf 3 = 1 := by kernel_rfl
  have hs : Tryz.prog.cellsOf 36 = 1 := by kernel_rfl
  rw [hc] at hlen;have get : ∀ i, i < 2 → ∃ y, xs[i]? = some y := fun i h => ⟨_, List.getElem?_eq_getElem (by rw [hxl]; exact h)⟩
  match cs, hlen with
  | [c0, c1], _ =>
    obtain ⟨y0, e0⟩ := get 0 (by omega);obtain ⟨y1, e1⟩ := get 1 (by omega);have g0 := (hf 0 _ rfl).trans e0;have g1 := (hf 1 _ rfl).trans e1;simp [hs, hi] at g0 g1;obtain ⟨n0, k0, _⟩ := DataW.trod_int Tryz.underlying3 g0;obtain ⟨A, c, l, hv, hr, _, h6, h7, h8⟩ := open_rows Tryz.underlying36 hi (by omega) elp_int g1;simp at hv k0;rw [flat_intsP] at hr;exact ⟨⟨⟨n0, l⟩, A, c⟩, by rw [hv, k0]; rfl, hr, h6, h7, fun e => (h8 e).2⟩
theorem open_prt {r : Reach} {b0 : Nat} {v : Value} {d : DataW H} {ps : List MemPlace} (hval : Value.okWide Tryz.prog w r b0 25 v) (hd : DataW.Trod enc Tryz.prog w 0 (fun _ => true) true 25 v d ps) :
    ∃ (Ac : Option Addr) (cc : Nat) (Ab : Option Addr) (cb : Nat) (p : Prt), v = .agg (prtV Ac cc Ab cb p) ∧ PrtB w.heap.size w Ac cc Ab cb p := by
  obtain ⟨cs, rfl, fuel, h⟩ := open_agg Tryz.underlying25 hval hd;obtain ⟨xs, m, rfl, _, hlen, hxl, hf⟩ := DataW.trod_struct Tryz.underlying25 h;have hc : Tryz.prog.cellsOf 25 = 3 := by kernel_rfl
  have hi : Tryz.prog.cellsOf 3 = 1 := by kernel_rfl
  have hs1 : Tryz.prog.cellsOf 22 = 1 := by kernel_rfl
  have hs2 : Tryz.prog.cellsOf 23 = 1 := by kernel_rfl
  have h3 : Tryz.prog.cellsOf 99 = 3 := by kernel_rfl
  have h2 : Tryz.prog.cellsOf 83 = 2 := by kernel_rfl
  rw [hc] at hlen;have get : ∀ i, i < 3 → ∃ y, xs[i]? = some y := fun i h => ⟨_, List.getElem?_eq_getElem (by rw [hxl]; exact h)⟩
  match hcs : cs.toList, hlen with
  | [c0, c1, c2], _ =>
    rw [hcs] at hf;obtain ⟨y0, e0⟩ := get 0 (by omega);obtain ⟨y1, e1⟩ := get 1 (by omega);obtain ⟨y2, e2⟩ := get 2 (by omega);have g0 := (hf 0 _ rfl).trans e0;have g1 := (hf 1 _ rfl).trans e1;have g2 := (hf 2 _ rfl).trans e2;simp [hs1, hs2, hi] at g0 g1 g2;obtain ⟨Ac, cc, lc, hv0, hr0, _, a6, a7, a8⟩ := open_rows Tryz.underlying22 h3 (by omega) el_chn g0;obtain ⟨Ab, cb, lb, hv1, hr1, hG, b6, b7, b8⟩ := open_rows Tryz.underlying23 h2 (by omega) el_brt g1;obtain ⟨n2, k2, _⟩ := DataW.trod_int Tryz.underlying3 g2;simp at hv0 hv1 k2;have hl : (lb.map (·.b)).length = lb.length := by simp
    refine ⟨Ac, cc, Ab, cb, ⟨lc, lb.map (·.b), n2⟩, ?_, ⟨RdB.of hr0 (Nat.le_refl _), ?_, ⟨a6, a7, fun e => (a8 e).2⟩, ⟨by rw [hl]; exact b6, b7, fun e => (b8 e).2⟩⟩⟩
    · rw [hv0, hv1, k2] at hcs;simp only [prtV, hl];exact congrArg Value.agg (Array.ext' hcs)
    · intro k hk;have hk' : k < lb.length := by simpa using hk
      obtain ⟨b, off, e, hb, hcell⟩ := hr1.2 (by omega);have q0 := flat_get (f := brc) (s := 2) (fun _ => rfl) hk' (j := 0) (by decide);have q1 := flat_get (f := brc) (s := 2) (fun _ => rfl) hk' (j := 1) (by decide);have hg := hG _ (List.getElem_mem hk');have em : (lb.map (·.b))[k] = lb[k].b := by simp
      refine ⟨b, off, lb[k].A, lb[k].c, e, hb, ?_, ?_, ?_⟩
      · have := hcell _ _ q0;simpa [em] using this
      · have := hcell _ _ q1;simpa [em, Nat.add_assoc] using this
      · simp only [em];exact ⟨RdB.of hg.1 (Nat.le_refl _), hg.2⟩
end
end Go.Proofs.YtalcinepeofmcaaGreat
