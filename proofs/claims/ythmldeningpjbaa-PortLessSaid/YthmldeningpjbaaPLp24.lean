import Derived.Lib.AppendZeros
import Derived.Test.YthmldeningpjbaaPLp0
import Derived.Laws.IdiomCopy
import Derived.Laws.MakeOwn
import Derived.Laws.OwnMore
import Derived.Test.YthmldeningpjbaaPLp5
import Derived.Test.YthmldeningpjbaaPLp1
import Derived.Lib.Overlaps
import Derived.Laws.Externs
import Derived.Shelf.Spec.SlicesInsertGrow
import Derived.Test.YthmldeningpjbaaPLp15
import Derived.Test.YthmldeningpjbaaPLp16
import Derived.Test.YthmldeningpjbaaPLp18
import Derived.Test.YthmldeningpjbaaPLp19
import Derived.Test.YthmldeningpjbaaPLp21
import Derived.Test.YthmldeningpjbaaPLp23
import Derived.Test.YthmldeningpjbaaPLp4
import Derived.Test.YthmldeningpjbaaPLp3
import Derived.Test.YthmldeningpjbaaPLp2
set_option linter.unusedVariables false
set_option linter.unusedSimpArgs false
set_option maxRecDepth 100000
set_option maxHeartbeats 40000000
namespace Go.Proofs.Ythmldeningpjbaa
open Go
theorem run_append_grow_zeros {P : Program} {w : World} (t tn ty e : TypeId) (i : TypeInfo) (z : Value) (k kn : IntKind) (ht : P.underlying t = some (.slice e)) (htn : P.underlying tn = some (.int kn)) (hi : P.info? e = some i) (hz : i.zero = some z)
    (base : Option Addr) (sLen sCap : Nat) (olds : List Value) (hold : (Builtin.firstCells i.size sLen (.slice base sLen sCap)).run P w.drew = .ok olds.toArray w.drew)
    (n : Nat) (h0 : 0 < n) (hs : 0 < i.size) (hg : sCap < sLen + n) (h63 : ((sLen + n : Nat) : Int) ≤ 9223372036854775807) (h48n : n * i.bytes ≤ 281474976710656) (hfit : Builtin.nextslicecap (sLen + n) sCap * i.bytes ≤ 281474976710656) :
    (Builtin.append_ #[t, tn] ty #[.slice base sLen sCap, .int k n]).run P w =
      .ok (.slice (some ⟨w.heap.size, 0, none⟩) (sLen + n) (grownCap w (sLen + n) sCap e))
        (w.drew.alloc (.cells (olds.toArray ++ Builtin.zeroCells z.cells n ++ Builtin.zeroCells z.cells (grownCap w (sLen + n) sCap e - (sLen + n))) e)) := by
  have hn : n ≠ 0 := by omega
  have hw : IntKind.i64.wrap (n : Int) = n := by rw [IntKind.wrap_i64]; omega
  have hng : ¬ (sLen + n ≤ sCap) := by omega
  have h63' : ¬ (9223372036854775807 < ((sLen : Int) + (n : Int))) := by omega
  have h48' : ¬ (281474976710656 < Builtin.nextslicecap (sLen + n) sCap * i.bytes) := by omega
  have h48i : ¬ (281474976710656 < (n : Int) * (i.bytes : Int)) := by
    rw [← Int.natCast_mul];omega
  have hneg : ¬ ((n : Int) < 0) := by omega
  have hns : ¬ (n * i.size = 0) := Nat.mul_ne_zero hn (by omega);simp [Builtin.append_, run_underlying ht, run_underlying htn, sizeOf, typeInfo, zeroValue, hi, hz, asInt, asIntOf, hw, hng, hn, hneg, hns, h63', h48', h48i, Question.forced, hold, newRow, grownCap]
end Go.Proofs.Ythmldeningpjbaa
namespace Go.Proofs.Ythmldeningpjbaa
open Go Go.RowKit
variable {P : Program}
theorem heap_setCells {g : Nat} {t : TypeId} {fr : Nat × Nat} : ∀ (vs : List Value) (o : Nat) (w : World) (cur : Array Value), w.heap[g]? = some (.cells cur t fr) → o + vs.length ≤ cur.size →
    ∃ cur' : Array Value, (w.setCells g o vs).heap[g]? = some (.cells cur' t fr) ∧ cur'.size = cur.size ∧ (∀ j, j < vs.length → cur'[o + j]? = vs[j]?) ∧ (∀ j, j < o ∨ o + vs.length ≤ j → cur'[j]? = cur[j]?)
  | [], o, w, cur, h, _ => ⟨cur, h, rfl, fun j hj => by simp at hj, fun _ _ => rfl⟩
  | v :: r, o, w, cur, h, hl => by
    obtain ⟨cur', h1, h2, h3, h4⟩ := heap_setCells r (o + 1) (w.setCell ⟨g, o, none⟩ v) (cur.setIfInBounds o v) (hS_ h o v) (by simp at hl ⊢; omega);simp only [List.length_cons] at hl ⊢;refine ⟨cur', h1, by rw [h2]; simp, fun j hj => ?_, fun j hj => ?_⟩
    · cases j with
      | zero =>
        rw [h4 _ (by omega), Nat.add_zero, Array.getElem?_setIfInBounds_self_of_lt (by omega)]; rfl
      | succ j =>
        have := h3 j (by omega);rw [show o + (j + 1) = o + 1 + j from by omega, this]; rfl
    · rw [h4 j (by omega), Array.getElem?_setIfInBounds_ne (by omega)]
theorem Keep.setCells {S : List Nat} {w w' : World} (h : Keep S w w') {g : Nat} (hg : g ∈ S ∨ w.heap.size ≤ g) : ∀ (vs : List Value) (o : Nat), Keep S w (w'.setCells g o vs)
  | [], _ => h
  | v :: r, o => by
    rw [World.setCells];exact Keep.setCells (w' := w'.setCell ⟨g, o, none⟩ v) (h.setCell hg v) hg r (o + 1)
theorem run_copy_N (w : World) (dT sT ty elem : TypeId) (size b o dLen dCap : Nat) (a : Addr) (sLen sCap : Nat) (cs : List Value)
    (hu : P.underlying dT = some (.slice elem)) (hs : (P.info? elem).map (·.size) = some size) (hn : cs.length = Nat.min sLen dLen * size)
    (hsrc : ∀ j v, cs[j]? = some v → w.cell? (a.add j) = some v) (hc : ∀ j, j < cs.length → (w.cell? ⟨b, o + j, none⟩).isSome = true) (hf : ∀ j, j < cs.length → w.frozen? ⟨b, o + j, none⟩ = false) (h1 : ∀ v ∈ cs, v.oneCell' = true) :
    (Builtin.copy_ #[dT, sT] ty #[.slice (some ⟨b, o, none⟩) dLen dCap, .slice (some a) sLen sCap]).run P w = .ok (goInt (Nat.min sLen dLen)) (w.setCells b o cs) := by
  have hl := run_loadCells_list (P := P) w a cs hsrc;have hst := run_storeCells_cells (P := P) b o cs 0 w (by simpa using hc) (by simpa using hf) h1;cases hq : P.info? elem with
  | none => simp [hq] at hs
  | some i =>
    have hi : i.size = size := by simpa [hq] using hs
    simp [Builtin.copy_, run_underlying hu, Builtin.lenOf, Builtin.firstCells, sizeOf, typeInfo, hq, hi, ← hn, hl, hst]
end Go.Proofs.Ythmldeningpjbaa
namespace Go.Proofs.Ythmldeningpjbaa
open Go Go.RowKit
theorem ins_block {w : World} {e : TypeId} {g o s : Nat} {cur : Array Value} {xs ys : List Value} (hh : w.heap[g]? = some (.cells cur e (0, 0))) (hy : ys.length = s) (ho : o ≤ xs.length) (hc : xs.length + s ≤ cur.size) (hx : ∀ j, j < o → cur[j]? = xs[j]?) :
    (∃ c', ((w.setCells g (o + s) (xs.drop o)).setCells g o ys).heap[g]? = some (.cells c' e (0, 0)) ∧ c'.size = cur.size ∧ ∀ (j : Nat) (u : Value), (xs.take o ++ ys ++ xs.drop o)[j]? = some u → c'[j]? = some u) ∧
    (∃ c', ((w.setCells g o ys).setCells g (o + s) (xs.drop o)).heap[g]? = some (.cells c' e (0, 0)) ∧ c'.size = cur.size ∧ ∀ (j : Nat) (u : Value), (xs.take o ++ ys ++ xs.drop o)[j]? = some u → c'[j]? = some u) := by
  have hd : (xs.drop o).length = xs.length - o := List.length_drop;have ht : (xs.take o).length = o := by rw [List.length_take]; omega
  have key : ∀ (c' : Array Value), (∀ j, j < o → c'[j]? = xs[j]?) → (∀ j, j < s → c'[o + j]? = ys[j]?) → (∀ j, j < xs.length - o → c'[o + s + j]? = (xs.drop o)[j]?) → ∀ (j : Nat) (u : Value), (xs.take o ++ ys ++ xs.drop o)[j]? = some u → c'[j]? = some u := by
    intro c' h1 h2 h3 j u hj;rw [List.append_assoc] at hj;by_cases a : j < o
    · rw [List.getElem?_append_left (by omega), List.getElem?_take, if_pos a] at hj;rw [h1 j a]; exact hj
    · rw [List.getElem?_append_right (by omega), ht] at hj;by_cases b : j - o < s
      · rw [List.getElem?_append_left (by omega)] at hj;have := h2 (j - o) b;rw [show o + (j - o) = j by omega] at this;rw [this]; exact hj
      · rw [List.getElem?_append_right (by omega), hy] at hj;have hlt : j - o - s < xs.length - o := by
          have := List.getElem?_eq_some_iff.1 hj;obtain ⟨q, _⟩ := this;omega
        have := h3 (j - o - s) hlt;rw [show o + s + (j - o - s) = j by omega] at this;rw [this]; exact hj
  constructor
  · obtain ⟨c1, a1, a2, a3, a4⟩ := heap_setCells (xs.drop o) (o + s) w cur hh (by omega);obtain ⟨c2, b1, b2, b3, b4⟩ := heap_setCells ys o _ c1 a1 (by omega);refine ⟨c2, b1, by omega, key c2 (fun j hj => ?_) (fun j hj => b3 j (by omega)) (fun j hj => ?_)⟩
    · rw [b4 j (by omega), a4 j (by omega)]; exact hx j hj
    · rw [b4 _ (by omega)]; exact a3 j (by omega)
  · obtain ⟨c1, a1, a2, a3, a4⟩ := heap_setCells ys o w cur hh (by omega);obtain ⟨c2, b1, b2, b3, b4⟩ := heap_setCells (xs.drop o) (o + s) _ c1 a1 (by omega);refine ⟨c2, b1, by omega, key c2 (fun j hj => ?_) (fun j hj => ?_) (fun j hj => b3 j (by omega))⟩
    · rw [b4 j (by omega), a4 j (by omega)]; exact hx j hj
    · rw [b4 _ (by omega)]; exact a3 j (by omega)
end Go.Proofs.Ythmldeningpjbaa
namespace Go.Proofs.Ythmldeningpjbaa
open Go Go.RowKit Sp Pt
def InsPost (w : World) (n a : Nat) (xs ys : List Value) (fp : List Nat) (e : Ending) (w' : World) : Prop :=
  ∃ g c', e = .returned (.slice (some ⟨g, 0, none⟩) (n + 1) c') ∧ OwnS w' 55 6 (some ⟨g, 0, none⟩) (n + 1) c' (xs.take (a * 6) ++ ys ++ xs.drop (a * 6)) [g] ∧ (g ∈ fp ∨ w.heap.size ≤ g) ∧ Keep fp w w'
theorem insEnd_any (A : Option Addr) (n c vb : Nat) (xs ys : List Value) (fp : List Nat) (w : World) (H : OwnS w 55 6 A n c xs fp) (hn : n ≤ 100000) (hy : ys.length = 6) (h1 : ∀ u ∈ ys, u.oneCell' = true) (hv : w.heap[vb]? = some (.cells ys.toArray 55 (0, 0))) :
    Calls Try.prog 62 #[.slice A n c, .int .i64 n, .slice (some ⟨vb, 0, none⟩) 1 1] w (InsPost w n n xs ys fp) := by
  obtain ⟨i0, hi, hz0, hz1, hz2⟩ := info_parts infoCal;have hge := H.ge;have hcap := H.cap;have hxl : xs.length = n * 6 := H.1;have HH := Lib.hid (And.intro H (And.intro hv (And.intro hy h1)));have e0 : ((n : Int) == (n : Int)) = true := by simp
  obtain ⟨q, hq⟩ : ∃ q, q = A := ⟨_, rfl⟩;clear H hv hy h1
  go_enter Try.func62, Try.ntmps62
  go_wp2_with (at_builtin
               refine wpList_append_S rfl (.tmp 23) (.tmp 24) 28 rfl i0 _ 48 Try.underlying28 hi hz0 hz1 (by decide) hz2 rfl (A := A) (n := n) (c := c) (xs := xs) (fp := fp) (by simp [Act.eval]) ⟨vb, 0, none⟩ (by simp [Act.eval]) ys HH.out.1 HH.out.2.2.1 (fun j v hj => by rw [show (⟨vb, 0, none⟩ : Addr).add j = ⟨vb, j, none⟩ from by rw [Addr.add_lit, Nat.zero_add]]; exact (cOH HH.out.2.1 j).trans (by simpa using hj)) HH.out.2.2.2 (by omega) (by omega) ?_;intro g c' w' h1 h2 h3 h4;have HQ := Lib.hid (And.intro h1 (And.intro h2 (And.intro h3 h4)));clear h1 h2 h3 h4)
  all_goals
    go_ret;obtain ⟨h1, h2, h3, h4⟩ := HQ.out;refine ⟨g, c', rfl, ?_, ?_, h4⟩
    · rw [← hxl, List.take_length, List.drop_length, List.append_nil]; exact h1
    · rcases h2 with h | h
      · exact .inl h
      · exact .inr (Nat.le_of_eq h)
def Ins11V (W2 : World) (g g0 n c a G : Nat) (zs : List Value) : Nat → Value → Prop
  | 0, v => v = .slice (some ⟨g, 0, none⟩) (n + 1) G
  | 1, v => v = .int .i64 a
  | 2, v => v = .int .i64 1
  | 3, v => v = .int .i64 ((a : Int) + 1)
  | 4, v => v = .slice (some ⟨g, (a + 1) * 6, none⟩) (n - a) (G - (a + 1))
  | 5, v => v = .slice (some ⟨g0, 0, none⟩) n c
  | 6, v => v = .int .i64 a
  | 7, v => v = .slice (some ⟨g0, a * 6, none⟩) (n - a) (c - a)
  | 8, v => v = .int .i64 ((n - a : Nat) : Int)
  | _, _ => True
def Ins11W (W2 : World) (g g0 n c a G : Nat) (zs : List Value) (l : Nat → Bool) (w : World) : Prop := w = if l 8 = true then W2.drew.setCells g ((a + 1) * 6) zs else W2.drew
theorem insGrow_any (g0 n c a vb : Nat) (xs ys : List Value) (w : World) (ha : a < n) (hroom : c < n + 1) (H : OwnS w 55 6 (some ⟨g0, 0, none⟩) n c xs [g0]) (hn : n ≤ 100000) (hy : ys.length = 6) (h1 : ∀ u ∈ ys, u.oneCell' = true) (h1x : ∀ u ∈ xs, u.oneCell' = true) (hv : w.heap[vb]? = some (.cells ys.toArray 55 (0, 0))) :
    Calls Try.prog 62 #[.slice (some ⟨g0, 0, none⟩) n c, .int .i64 a, .slice (some ⟨vb, 0, none⟩) 1 1] w (InsPost w n a xs ys [g0]) := by
  obtain ⟨i0, hi0, hz0, hzs, hzb⟩ := info_parts infoCal;have hnc := H.ge;have hxl : xs.length = n * 6 := H.1;obtain ⟨g', hg', -, hbw, hcs, -⟩ := H.some_ (by omega);obtain rfl : g0 = g' := by cases hg'; rfl
  have hvw := hL_ hv;have hvs : ∀ (j : Nat) v, ys[j]? = some v → w.cell? ⟨vb, j, none⟩ = some v := fun j v hj => (cOH hv j).trans (by simpa using hj);have hz2 : ¬ ((a : Int) = (n : Int)) := by omega
  have hz3 : (c : Int) < (n : Int) + 1 := by omega
  have hsz : (Try.prog.info? 55).map (·.size) = some 6 := by rw [hi0]; simp [hzs]
  have hkk : (n : Int) + 1 - (a : Int) = ((n + 1 - a : Nat) : Int) := by omega
  have hik : a + (n + 1 - a) = n + 1 := by omega
  obtain ⟨Z, hZ⟩ : ∃ Z : Value, Z = .agg #[.int .i64 0, .int .i64 0, .bool false, .int .i64 0, .int .i64 0, .int .i64 0] := ⟨_, rfl⟩;rw [← hZ] at hz0;have hold : (Builtin.firstCells i0.size a (.slice (some ⟨g0, 0, none⟩) a c)).run Try.prog w.drew = .ok (xs.take (a * 6)).toArray w.drew := by
    rw [hzs];exact run_firstCells_some w.drew 6 a ⟨g0, 0, none⟩ a c (xs.take (a * 6)) (by rw [List.length_take]; omega) (fun j v hj => by
      rw [Addr.add_lit, Nat.zero_add];rw [List.getElem?_take] at hj;split at hj
      · exact hcs j v hj
      · cases hj)
  have hrz : ∀ ty, (Builtin.append_ #[28, 3] ty #[.slice (some ⟨g0, 0, none⟩) a c, .int .i64 ((n : Int) + 1 - (a : Int))]).run Try.prog w =
      .ok (.slice (some ⟨w.heap.size, 0, none⟩) (n + 1) (grownCap w (n + 1) c 55)) (w.drew.alloc (.cells ((xs.take (a * 6)).toArray ++ Builtin.zeroCells Z.cells (n + 1 - a) ++ Builtin.zeroCells Z.cells (grownCap w (n + 1) c 55 - (n + 1))) 55)) := fun ty => by
    have h := Lib.run_append_grow_zeros w 28 3 ty 55 i0 _ .i64 .i64 Try.underlying28 Try.underlying3 hi0 hz0 (some ⟨g0, 0, none⟩) a c (xs.take (a * 6)) hold (n + 1 - a) (by omega) (by omega) (by omega) (by omega) (by rw [hzb]; omega) (by rw [hzb, hik]; exact growslice_fits hroom (by omega));rw [hik] at h;rw [hkk];exact h
  obtain ⟨G, hG⟩ : ∃ G, G = grownCap w (n + 1) c 55 := ⟨_, rfl⟩;obtain ⟨ROW, hROW⟩ : ∃ ROW : Array Value, ROW = (xs.take (a * 6)).toArray ++ Builtin.zeroCells Z.cells (n + 1 - a) ++ Builtin.zeroCells Z.cells (G - (n + 1)) := ⟨_, rfl⟩;rw [← hG] at hrz;rw [← hROW] at hrz;have hGn : n + 1 ≤ G := by rw [hG]; exact grownCap_ge w _ _ _
  have hG63 : G ≤ 9223372036854775807 := by
    have := grownCap_le_maxLen w (n + 1) c 55 (by unfold maxLen; omega);rw [← hG] at this;unfold maxLen at this;omega
  have hzc : Z.cells.size = 6 := by rw [hZ]; rfl
  have htl : (xs.take (a * 6)).length = a * 6 := by rw [List.length_take]; omega
  have hRs : ROW.size = G * 6 := by
    rw [hROW];simp only [Array.size_append, List.size_toArray, size_zeroCells, hzc, htl];omega
  have hRt : ∀ j, j < a * 6 → ROW[j]? = xs[j]? := fun j hj => by
    rw [hROW, Array.getElem?_append_left (by simp only [Array.size_append, List.size_toArray, htl]; omega), Array.getElem?_append_left (by simp only [List.size_toArray, htl]; omega), List.getElem?_toArray, List.getElem?_take, if_pos hj]
  obtain ⟨W1, hW1⟩ : ∃ W1, W1 = w.drew.alloc (.cells ROW 55) := ⟨_, rfl⟩;rw [← hW1] at hrz;obtain ⟨g, hg⟩ : ∃ g, g = w.heap.size := ⟨_, rfl⟩;rw [← hg] at hrz;have hW1g : W1.heap[g]? = some (.cells ROW 55 (0, 0)) := by rw [hW1, hg]; exact heap_alloc_new w.drew _
  have hN : ∀ j, j < (n + 1) * 6 → (W1.cell? ⟨g, j, none⟩).isSome = true := fun j hj => by
    rw [cOH hW1g, Array.getElem?_eq_getElem (by omega)]; rfl
  have hNf : ∀ j, W1.frozen? ⟨g, j, none⟩ = false := fun j => fOH hW1g j;have hOb : ∀ j v, w.cell? ⟨g0, j, none⟩ = some v → W1.cell? ⟨g0, j, none⟩ = some v := fun j v h => by rw [hW1, World.cell?_alloc_past (w := w.drew) _ g0 j hbw]; exact h
  have hOv : ∀ j v, w.cell? ⟨vb, j, none⟩ = some v → W1.cell? ⟨vb, j, none⟩ = some v := fun j v h => by rw [hW1, World.cell?_alloc_past (w := w.drew) _ vb j hvw]; exact h
  have hm1 : Nat.min 1 (n + 1 - a) = 1 := by simp only [Nat.min_def]; split <;> omega
  have hm2 : Nat.min (n - a) (n - a) = n - a := Nat.min_self _;have hdl : (xs.drop (a * 6)).length = (n - a) * 6 := by rw [List.length_drop, hxl]; omega
  have hbN : g0 ≠ g := by omega
  have hcpA : ∀ (W : World), (∀ x, W.cell? x = W1.cell? x) → (∀ x, W.frozen? x = W1.frozen? x) → ∀ ty dc, (Builtin.copy_ #[28, 28] ty #[.slice (some ⟨g, a * 6, none⟩) (n + 1 - a) dc, .slice (some ⟨vb, 0, none⟩) 1 1]).run Try.prog W = .ok (goInt 1) (W.setCells g (a * 6) ys) := fun W hWc hWf ty dc => by
    have h := run_copy_N (P := Try.prog) W 28 28 ty 55 6 g (a * 6) (n + 1 - a) dc ⟨vb, 0, none⟩ 1 1 ys Try.underlying28 hsz (by rw [hm1, hy])
      (fun j v hj => by rw [Addr.add_lit, Nat.zero_add, hWc]; exact hOv _ v (hvs j v hj))
      (fun j hj => by rw [hWc]; exact hN _ (by omega)) (fun j hj => by rw [hWf]; exact hNf _) h1
    rw [hm1] at h;exact h
  have hcpB : ∀ (W : World), (∀ x, W.cell? x = (W1.setCells g (a * 6) ys).cell? x) → (∀ x, W.frozen? x = (W1.setCells g (a * 6) ys).frozen? x) → ∀ ty dc sc, (Builtin.copy_ #[28, 28] ty #[.slice (some ⟨g, (a + 1) * 6, none⟩) (n - a) dc, .slice (some ⟨g0, a * 6, none⟩) (n - a) sc]).run Try.prog W = .ok (goInt ((n - a : Nat) : Int)) (W.setCells g ((a + 1) * 6) (xs.drop (a * 6))) := fun W hWc hWf ty dc sc => by
    have h := run_copy_N (P := Try.prog) W 28 28 ty 55 6 g ((a + 1) * 6) (n - a) dc ⟨g0, a * 6, none⟩ (n - a) sc (xs.drop (a * 6)) Try.underlying28 hsz (by rw [hm2, hdl])
      (fun j v hj => by
        rw [Addr.add_lit, hWc, World.cell?_setCells_out _ _ _ _ _ (fun h _ => absurd h hbN)];exact hOb _ v (hcs (a * 6 + j) v (by rwa [List.getElem?_drop] at hj)))
      (fun j hj => by rw [hWc]; exact isSome_setCells _ _ _ _ (fun t ht => hN _ (by omega)) _ (hN _ (by omega)))
      (fun j hj => by rw [hWf, World.frozen?_setCells]; exact hNf _) (fun v hv => h1x v (List.mem_of_mem_drop hv))
    rw [hm2] at h;exact h
  have HX := Lib.hid (And.intro hROW (And.intro hG (And.intro hW1 (And.intro hg (And.intro hRs (And.intro hRt hW1g))))));clear hkk hik hold hROW hG hW1 hg hRs hRt hW1g hN hNf hOb hOv
  go_enter Try.func62, Try.ntmps62
  go_wp2_with (first
    | (at_builtin; refine Lib.wpList_append_run _ rfl _ _ _ _ rfl _ _ rfl rfl _ _ (hrz _) ?_)
    | (at_builtin; refine wpList_copy_runI _ rfl _ _ 28 28 rfl _ _ rfl rfl (hcpA _ (fun _ => rfl) (fun _ => rfl) _ _) ?_))
  have hin : a ≤ n := by omega
  have hGi : ¬ (G = a) := by omega
  have hGim : ¬ (G = a + 1) := by omega
  have hci : ¬ (c = a) := by omega
  have hb1 : (0 : Int) ≤ (a : Int) + 1 := by omega
  refine wRS (σ := Unit) (by kernel_rfl) (by kernel_rfl) (fun _ jx vx _ => Ins11V (W1.setCells g (a * 6) ys) g g0 n c a G (xs.drop (a * 6)) jx vx) (fun _ ly wx => Ins11W (W1.setCells g (a * 6) ys) g g0 n c a G (xs.drop (a * 6)) ly wx) () ?_ ?_ ?_
  · simp [Ins11W]
  · simp only [AllFrom, Nat.zero_add, Nat.reduceAdd];refine ⟨?_, ?_, ?_, ?_, ?_, ?_, ?_, ?_, ?_, trivial⟩
    · refine sP_ fun sg ly act wr hl hd hW hF => ?_;have et9 := hF.old 9 (by kernel_rfl);simp [Act.eval] at et9;exact ⟨by simpa [Ins11W, upd] using hW, .slice (some ⟨g, 0, none⟩) (n + 1) G, by go_simp, rfl⟩
    · refine sP_ fun sg ly act wr hl hd hW hF => ?_;have et1 := hF.old 1 (by kernel_rfl);simp [Act.eval] at et1;exact ⟨by simpa [Ins11W, upd] using hW, .int .i64 a, by go_simp, rfl⟩
    · refine sP_ fun sg ly act wr hl hd hW hF => ?_;have et7 := hF.old 7 (by kernel_rfl);simp [Act.eval] at et7;exact ⟨by simpa [Ins11W, upd] using hW, .int .i64 1, by go_simp, rfl⟩
    · refine sP_ fun sg ly act wr hl hd hW hF => ?_;simp [Region.binds] at hd;have et47 := hF.new 1 47 (by simp [hd]) rfl;simp [Ins11V, Act.eval] at et47;have et48 := hF.new 2 48 (by simp [hd]) rfl;simp [Ins11V, Act.eval] at et48;have ew := IntWalk.i64_in ((a : Int) + 1) (by omega);exact ⟨by simpa [Ins11W, upd] using hW, .int .i64 ((a : Int) + 1), by go_simp, rfl⟩
    · refine sP_ fun sg ly act wr hl hd hW hF => ?_;simp [Region.binds] at hd;have et46 := hF.new 0 46 (by simp [hd]) rfl;simp [Ins11V, Act.eval] at et46;have et49 := hF.new 3 49 (by simp [hd]) rfl;simp [Ins11V, Act.eval] at et49;have hq : n + 1 - (a + 1) = n - a := by omega
      exact ⟨by simpa [Ins11W, upd] using hW, .slice (some ⟨g, (a + 1) * 6, none⟩) (n - a) (G - (a + 1)), by go_simp, rfl⟩
    · refine sP_ fun sg ly act wr hl hd hW hF => ?_;have et0 := hF.old 0 (by kernel_rfl);simp [Act.eval] at et0;exact ⟨by simpa [Ins11W, upd] using hW, .slice (some ⟨g0, 0, none⟩) n c, by go_simp, rfl⟩
    · refine sP_ fun sg ly act wr hl hd hW hF => ?_;have et1 := hF.old 1 (by kernel_rfl);simp [Act.eval] at et1;exact ⟨by simpa [Ins11W, upd] using hW, .int .i64 a, by go_simp, rfl⟩
    · refine sP_ fun sg ly act wr hl hd hW hF => ?_;simp [Region.binds] at hd;have et51 := hF.new 5 51 (by simp [hd]) rfl;simp [Ins11V, Act.eval] at et51;have et52 := hF.new 6 52 (by simp [hd]) rfl;simp [Ins11V, Act.eval] at et52;exact ⟨by simpa [Ins11W, upd] using hW, .slice (some ⟨g0, a * 6, none⟩) (n - a) (c - a), by go_simp, rfl⟩
    · intro sg ly act wx hl hd hW hF;simp [Region.binds] at hd;have et50 := hF.new 4 50 (by simp [hd]) rfl;simp [Ins11V, Act.eval] at et50;have et53 := hF.new 7 53 (by simp [hd]) rfl;simp [Ins11V, Act.eval] at et53;unfold Ins11W at hW;rw [if_neg (by simp [hl])] at hW;subst hW;refine wp_copy_runI _ (.tmp 50) (.tmp 53) 28 28 rfl _ _ (by simpa [Act.eval] using et50) (by simpa [Act.eval] using et53) (hcpB (W1.setCells g (a * 6) ys).drew (fun _ => rfl) (fun _ => rfl) 3 (G - (a + 1)) (c - a)) ?_;exact ⟨(), .int .i64 ((n - a : Nat) : Int), rfl, by simp [Ins11W, upd], fun _ => rfl, fun _ _ _ h => h⟩
  intro sg af w8 hWW hF;obtain ⟨ff, hf, rfl⟩ := hF.lit;have hw8 : w8 = (W1.setCells g (a * 6) ys).drew.setCells g ((a + 1) * 6) (xs.drop (a * 6)) := by
    simpa [Ins11W] using hWW
  have H8 := Lib.hid hw8;clear hWW hF hf hw8;simp only [List.filterMap, List.foldl, List.setIfInBounds_toArray, List.set_cons_succ, List.set_cons_zero];go_wp2_with fail
  go_ret;obtain ⟨hROW, hG, hW1, hg, hRs, hRt, hW1g⟩ := HX.out;obtain ⟨-, C, d1, d2, d3⟩ := ins_block (s := 6) (o := a * 6) hW1g hy (by omega) (by omega) hRt;have hw8 := H8.out;rw [← drew_setCells, show (a + 1) * 6 = a * 6 + 6 by omega] at hw8;have hh : w8.heap[g]? = some (.cells C 55 (0, 0)) := by rw [hw8]; exact d1
  have hk : Keep [g0] w w8 := by
    rw [hw8];exact (Keep.setCells (Keep.setCells (by rw [hW1]; exact ((Keep.refl [g0] w).drew).alloc _) (.inr (by omega)) _ _) (.inr (by omega)) _ _).drew
  refine ⟨g, G, rfl, ⟨?_, .inr ⟨g, C, rfl, rfl, hh, hGn, hG63, by omega, d3⟩⟩, .inr (by omega), hk⟩;simp only [List.length_append, List.length_take, List.length_drop, hxl, hy];omega
def Ins15V (W0 : World) (g0 n c a : Nat) (zs : List Value) : Nat → Value → Prop
  | 0, v => v = .slice (some ⟨g0, 0, none⟩) (n + 1) c
  | 1, v => v = .int .i64 a
  | 2, v => v = .int .i64 1
  | 3, v => v = .int .i64 ((a : Int) + 1)
  | 4, v => v = .slice (some ⟨g0, (a + 1) * 6, none⟩) (n - a) (c - (a + 1))
  | 5, v => v = .slice (some ⟨g0, 0, none⟩) (n + 1) c
  | 6, v => v = .int .i64 a
  | 7, v => v = .slice (some ⟨g0, a * 6, none⟩) (n + 1 - a) (c - a)
  | 8, v => v = .int .i64 ((n - a : Nat) : Int)
  | _, _ => True
def Ins15W (W0 : World) (g0 n c a : Nat) (zs : List Value) (l : Nat → Bool) (w : World) : Prop := w = if l 8 = true then W0.drew.setCells g0 ((a + 1) * 6) zs else W0.drew
theorem insRoom_any (g0 n c a vb : Nat) (xs ys : List Value) (w : World) (ha : a < n) (hroom : n + 1 ≤ c) (H : OwnS w 55 6 (some ⟨g0, 0, none⟩) n c xs [g0]) (hn : n ≤ 100000) (hy : ys.length = 6) (h1 : ∀ u ∈ ys, u.oneCell' = true) (h1x : ∀ u ∈ xs, u.oneCell' = true) (hv : w.heap[vb]? = some (.cells ys.toArray 55 (0, 0))) (hvb : vb ≠ g0) :
    Calls Try.prog 62 #[.slice (some ⟨g0, 0, none⟩) n c, .int .i64 a, .slice (some ⟨vb, 0, none⟩) 1 1] w (InsPost w n a xs ys [g0]) := by
  obtain ⟨i0, hi0, hz0, hzs, hzb⟩ := info_parts infoCal;have hxl : xs.length = n * 6 := H.1;obtain ⟨cur, hh, hc63, hcz, hat⟩ : ∃ cur : Array Value, w.heap[g0]? = some (.cells cur 55 (0, 0)) ∧ c ≤ 9223372036854775807 ∧ c * 6 = cur.size ∧ ∀ (j : Nat) (u : Value), xs[j]? = some u → cur[j]? = some u := by
    rcases H.2 with ⟨h0, _⟩ | ⟨g', cur, he, _, hh, _, h2, h3, h4⟩
    · cases h0
    · injection he with he
      injection he with e1 _ _
      subst e1;exact ⟨cur, hh, h2, h3, h4⟩
  have hcs : ∀ (j : Nat) v, xs[j]? = some v → w.cell? ⟨g0, j, none⟩ = some v := fun j v hj => (cOH hh j).trans (hat j v hj);have hsp : ∀ j, j < (n + 1) * 6 → (w.cell? ⟨g0, j, none⟩).isSome = true := fun j hj => by
    rw [cOH hh, Array.getElem?_eq_getElem (by omega)]; rfl
  have hfz : ∀ j, w.frozen? ⟨g0, j, none⟩ = false := fun j => fOH hh j;have hvs : ∀ (j : Nat) v, ys[j]? = some v → w.cell? ⟨vb, j, none⟩ = some v := fun j v hj => (cOH hv j).trans (by simpa using hj);have hsz : (Try.prog.info? 55).map (·.size) = some 6 := by rw [hi0]; simp [hzs]
  have hz2 : ¬ ((a : Int) = (n : Int)) := by omega
  have hz3 : ¬ ((c : Int) < (n : Int) + 1) := by omega
  have hov : ∀ lb cb, (callFunc 114 #[.slice (some ⟨vb, 0, none⟩) 1 1, .slice (some ⟨g0, (a + 1) * 6, none⟩) lb cb]).run Try.prog w = .ok (.value (.bool false)) w := fun lb cb => by
    rw [run_callFunc_extern Try.func114 (by kernel_rfl) (by kernel_rfl) (by kernel_rfl) (e := Extern.SlicesOverlaps.overlaps #[28, 28] #[4]) (by kernel_rfl),
      Lib.run_overlaps_apart w 28 4 55 Try.underlying28 6 Try.sizeOf55 ⟨vb, 0, none⟩ ⟨g0, (a + 1) * 6, none⟩ 1 1 lb cb hvb 55 55 ys.toArray.size cur.size (by unfold World.shape?; rw [hv]) (by unfold World.shape?; rw [hh]) (by omega) (fOH hv _) (fOH hv _)]
    rfl
  have hm1 : Nat.min (n + 1 - a) (n - a) = n - a := by simp only [Nat.min_def]; split <;> omega
  have hm2 : Nat.min 1 (n + 1 - a) = 1 := by simp only [Nat.min_def]; split <;> omega
  have hdl : (xs.drop (a * 6)).length = (n - a) * 6 := by rw [List.length_drop, hxl]; omega
  have hcp1 : ∀ ty dc sc, (Builtin.copy_ #[28, 28] ty #[.slice (some ⟨g0, (a + 1) * 6, none⟩) (n - a) dc, .slice (some ⟨g0, a * 6, none⟩) (n + 1 - a) sc]).run Try.prog w.drew = .ok (goInt ((n - a : Nat) : Int)) (w.drew.setCells g0 ((a + 1) * 6) (xs.drop (a * 6))) := fun ty dc sc => by
    have h := run_copy_N (P := Try.prog) w.drew 28 28 ty 55 6 g0 ((a + 1) * 6) (n - a) dc ⟨g0, a * 6, none⟩ (n + 1 - a) sc (xs.drop (a * 6)) Try.underlying28 hsz (by rw [hm1, hdl])
      (fun j v hj => by rw [Addr.add_lit]; exact hcs (a * 6 + j) v (by rwa [List.getElem?_drop] at hj))
      (fun j hj => hsp _ (by omega)) (fun j hj => hfz _) (fun v hv => h1x v (List.mem_of_mem_drop hv))
    rw [hm1] at h;exact h
  obtain ⟨W1, hW1⟩ : ∃ W1, W1 = w.drew.setCells g0 ((a + 1) * 6) (xs.drop (a * 6)) := ⟨_, rfl⟩;have hcp2 : ∀ ty dc, (Builtin.copy_ #[28, 28] ty #[.slice (some ⟨g0, a * 6, none⟩) (n + 1 - a) dc, .slice (some ⟨vb, 0, none⟩) 1 1]).run Try.prog W1 = .ok (goInt 1) (W1.setCells g0 (a * 6) ys) := fun ty dc => by
    have h := run_copy_N (P := Try.prog) W1 28 28 ty 55 6 g0 (a * 6) (n + 1 - a) dc ⟨vb, 0, none⟩ 1 1 ys Try.underlying28 hsz (by rw [hm2, hy])
      (fun j v hj => by
        rw [Addr.add_lit, Nat.zero_add, hW1, World.cell?_setCells_out _ _ _ _ _ (fun h _ => absurd h hvb)];exact hvs j v hj)
      (fun j hj => by rw [hW1]; exact isSome_setCells g0 (xs.drop (a * 6)) ((a + 1) * 6) w.drew (fun t ht => hsp _ (by rw [hdl] at ht; omega)) (a * 6 + j) (hsp _ (by rw [hy] at hj; omega)))
      (fun j hj => by rw [hW1, World.frozen?_setCells]; exact hfz _) h1
    rw [hm2] at h;exact h
  have HX := Lib.hid (And.intro hW1 (And.intro hh (And.intro hcz hat)));have hGi : ¬ (c = a) := by omega
  have hGim : ¬ (c = a + 1) := by omega
  have hin : a ≤ n := by omega
  have hin1 : a ≤ n + 1 := by omega
  have hb1 : (0 : Int) ≤ (a : Int) + 1 := by omega
  have hcpF : ∀ x, W1 = x → W1 = x := fun _ h => h;have htn : ((a : Int) + 1).toNat = a + 1 := by omega
  clear hW1 hh hat hcs hsp hfz hvs H hv;have hb3 : (a : Int) ≤ (n : Int) + 1 := by omega
  have hw1 : IntKind.i64.wrap ((a : Int) + 1) = (a : Int) + 1 := by rw [IntKind.wrap_i64]; omega
  go_enter Try.func62, Try.ntmps62
  go_wp2_with (simp only [hov])
  clear hw1;refine wRS (σ := Unit) (by kernel_rfl) (by kernel_rfl) (fun _ jx vx _ => Ins15V w g0 n c a (xs.drop (a * 6)) jx vx) (fun _ ly wx => Ins15W w g0 n c a (xs.drop (a * 6)) ly wx) () ?_ ?_ ?_
  · simp [Ins15W]
  · simp only [AllFrom, Nat.zero_add, Nat.reduceAdd];refine ⟨?_, ?_, ?_, ?_, ?_, ?_, ?_, ?_, ?_, trivial⟩
    · refine sP_ fun sg ly act wr hl hd hW hF => ?_;have et0 := hF.old 0 (by kernel_rfl);simp [Act.eval] at et0;exact ⟨by simpa [Ins15W, upd] using hW, .slice (some ⟨g0, 0, none⟩) (n + 1) c, by go_simp, rfl⟩
    · refine sP_ fun sg ly act wr hl hd hW hF => ?_;have et1 := hF.old 1 (by kernel_rfl);simp [Act.eval] at et1;exact ⟨by simpa [Ins15W, upd] using hW, .int .i64 a, by go_simp, rfl⟩
    · refine sP_ fun sg ly act wr hl hd hW hF => ?_;have et7 := hF.old 7 (by kernel_rfl);simp [Act.eval] at et7;exact ⟨by simpa [Ins15W, upd] using hW, .int .i64 1, by go_simp, rfl⟩
    · refine sP_ fun sg ly act wr hl hd hW hF => ?_;simp [Region.binds] at hd;have et70 := hF.new 1 70 (by simp [hd]) rfl;simp [Ins15V, Act.eval] at et70;have et71 := hF.new 2 71 (by simp [hd]) rfl;simp [Ins15V, Act.eval] at et71;have ew := IntWalk.i64_in ((a : Int) + 1) (by omega);exact ⟨by simpa [Ins15W, upd] using hW, .int .i64 ((a : Int) + 1), by go_simp, rfl⟩
    · refine sP_ fun sg ly act wr hl hd hW hF => ?_;simp [Region.binds] at hd;have et69 := hF.new 0 69 (by simp [hd]) rfl;simp [Ins15V, Act.eval] at et69;have et72 := hF.new 3 72 (by simp [hd]) rfl;simp [Ins15V, Act.eval] at et72;have hq : n + 1 - (a + 1) = n - a := by omega
      exact ⟨by simpa [Ins15W, upd] using hW, .slice (some ⟨g0, (a + 1) * 6, none⟩) (n - a) (c - (a + 1)), by go_simp, rfl⟩
    · refine sP_ fun sg ly act wr hl hd hW hF => ?_;have et0 := hF.old 0 (by kernel_rfl);simp [Act.eval] at et0;exact ⟨by simpa [Ins15W, upd] using hW, .slice (some ⟨g0, 0, none⟩) (n + 1) c, by go_simp, rfl⟩
    · refine sP_ fun sg ly act wr hl hd hW hF => ?_;have et1 := hF.old 1 (by kernel_rfl);simp [Act.eval] at et1;exact ⟨by simpa [Ins15W, upd] using hW, .int .i64 a, by go_simp, rfl⟩
    · refine sP_ fun sg ly act wr hl hd hW hF => ?_;simp [Region.binds] at hd;have et74 := hF.new 5 74 (by simp [hd]) rfl;simp [Ins15V, Act.eval] at et74;have et75 := hF.new 6 75 (by simp [hd]) rfl;simp [Ins15V, Act.eval] at et75;exact ⟨by simpa [Ins15W, upd] using hW, .slice (some ⟨g0, a * 6, none⟩) (n + 1 - a) (c - a), by go_simp, rfl⟩
    · intro sg ly act wx hl hd hW hF;simp [Region.binds] at hd;have et73 := hF.new 4 73 (by simp [hd]) rfl;simp [Ins15V, Act.eval] at et73;have et76 := hF.new 7 76 (by simp [hd]) rfl;simp [Ins15V, Act.eval] at et76;unfold Ins15W at hW;rw [if_neg (by simp [hl])] at hW;subst hW;refine wp_copy_runI _ (.tmp 73) (.tmp 76) 28 28 rfl _ _ (by simpa [Act.eval] using et73) (by simpa [Act.eval] using et76) (hcp1 3 (c - (a + 1)) (c - a)) ?_;exact ⟨(), .int .i64 ((n - a : Nat) : Int), rfl, by simp [Ins15W, upd], fun _ => rfl, fun _ _ _ h => h⟩
  intro sg af w8 hWW hF;obtain ⟨ff, hf, rfl⟩ := hF.lit;have hw8 : w8 = W1 := by rw [HX.out.1]; simpa [Ins15W] using hWW
  subst hw8;clear hWW hF hf;simp only [List.filterMap, List.foldl, List.setIfInBounds_toArray, List.set_cons_succ, List.set_cons_zero];go_wp2_with (at_builtin; refine wpList_copy_runI _ rfl _ _ 28 28 rfl _ _ rfl rfl (hcp2 _ _) ?_)
  go_ret;obtain ⟨hW1, hh, hcz, hat⟩ := HX.out;obtain ⟨⟨C, d1, d2, d3⟩, -⟩ := ins_block (w := w.drew) (s := 6) (o := a * 6) (xs := xs) (ys := ys) (cur := cur) hh hy (by omega) (by omega) (fun j hj => by rw [List.getElem?_eq_getElem (show j < xs.length by omega)]; exact hat j _ (List.getElem?_eq_getElem _));rw [show a * 6 + 6 = (a + 1) * 6 by omega, ← hW1] at d1;have hk : Keep [g0] w (w8.setCells g0 (a * 6) ys) := Keep.setCells (by rw [hW1]; exact Keep.setCells ((Keep.refl [g0] w).drew) (.inl (by simp)) _ _) (.inl (by simp)) _ _;refine ⟨g0, c, rfl, ⟨?_, .inr ⟨g0, C, rfl, rfl, d1, hroom, hc63, by omega, d3⟩⟩, .inl (by simp), hk⟩;simp only [List.length_append, List.length_take, List.length_drop, hxl, hy];omega
theorem Insert_any (A : Option Addr) (n c a vb : Nat) (xs ys : List Value) (fp : List Nat) (w : World) (ha : a ≤ n) (H : OwnS w 55 6 A n c xs fp) (hn : n ≤ 100000) (hy : ys.length = 6) (h1 : ∀ u ∈ ys, u.oneCell' = true) (h1x : ∀ u ∈ xs, u.oneCell' = true) (hv : w.heap[vb]? = some (.cells ys.toArray 55 (0, 0))) (hvb : vb ∉ fp) :
    Calls Try.prog 62 #[.slice A n c, .int .i64 a, .slice (some ⟨vb, 0, none⟩) 1 1] w (InsPost w n a xs ys fp) := by
  by_cases h : a = n
  · subst h;exact insEnd_any A a c vb xs ys fp w H hn hy h1 hv
  · obtain ⟨g, rfl, rfl, _⟩ := H.some_ (by omega);by_cases hr : n + 1 ≤ c
    · exact insRoom_any g n c a vb xs ys w (by omega) hr H hn hy h1 h1x hv (by simpa using hvb)
    · exact insGrow_any g n c a vb xs ys w (by omega) (by omega) H hn hy h1 h1x hv
end Go.Proofs.Ythmldeningpjbaa
namespace Go.Proofs.Ythmldeningpjbaa
open Go Go.RowKit Go.Lib Sp Pt
def stO (c : PoC) (s : StC) : Obj := .cells #[.slice (some ⟨s.gb, 0, none⟩) s.b.length s.cr, .slice (some ⟨s.ub, 0, none⟩) c.p.bts.length c.p.bts.length] 42
def stL (c : PoC) (s : StC) (ib dl : Nat) : List It := [.nx ib dl, .blk s.sb (stO c s), .own 3 1 (some ⟨s.gb, 0, none⟩) s.b.length s.cr (ints s.b) [s.gb], .own 4 1 (some ⟨s.ub, 0, none⟩) c.p.bts.length c.p.bts.length (bools (noB c.p)) [s.ub]]
theorem stL.stE {D : Nat} {W0 w : World} {c : PoC} {s : StC} {ib dl : Nat} (O : Own D W0 (stL c s ib dl) w) : StE c s w := StE.of (O.heap 1 rfl) (O.owns 2 rfl) (O.owns 3 rfl)
theorem Own.plan {D : Nat} {W0 w w' : World} {L0 : List It} (h : Own D W0 L0 w) {l : Pln} {e : Ending} (hc : OwnPln w l e w') :
    ∃ Al cl As cs q1 q2, e = .returned (.agg (plnV Al cl As cs l)) ∧ Own D W0 (L0 ++ [.own 55 6 Al l.calls.length cl (cacs l.calls) q1, .own 126 3 As l.swps.length cs (swcs l.swps) q2]) w' ∧ Below w.heap.size w w' := by
  obtain ⟨Al, cl, As, cs, q1, q2, h1, h2, h3, h4, h5, h6, h7⟩ := hc;refine ⟨Al, cl, As, cs, q1, q2, h1, ?_, h7⟩;have a1 := h.new (i := .own 55 6 Al l.calls.length cl (cacs l.calls) q1) h7 h2 h4;have a2 := a1.add (i := .own 126 3 As l.swps.length cs (swcs l.swps) q2) h3 ?_ ?_
  · rw [List.append_assoc] at a2; exact a2
  · intro x hx;have := h5 x hx;have := h.lo;omega
  · intro j hj x hx hm;rcases List.mem_append.1 hj with e | e
    · obtain ⟨a, ha⟩ := List.mem_iff_getElem?.1 e;have := h.lt a ha hm;have := h5 x hx;omega
    · rw [List.mem_singleton.1 e] at hm;exact h6 x hm hx
theorem cac1 {l : List Cal} : ∀ u ∈ cacs l, u.oneCell' = true := by
  intro u hu;obtain ⟨x, _, hx⟩ := List.mem_flatMap.1 hu;simp [cac] at hx;rcases hx with rfl | rfl | rfl | rfl | rfl | rfl <;> rfl
theorem cacs_len (l : List Cal) : (cacs l).length = l.length * 6 := by
  induction l with
  | nil => rfl
  | cons x l ih => simp only [cacs, List.flatMap_cons, List.length_append, cac, List.length_cons, List.length_nil] at ih ⊢; omega
theorem cacs_take (l : List Cal) (a : Nat) : (cacs l).take (a * 6) = cacs (l.take a) ∧ (cacs l).drop (a * 6) = cacs (l.drop a) := by
  by_cases h : a ≤ l.length
  · have e : cacs l = cacs (l.take a) ++ cacs (l.drop a) := by rw [cacs, cacs, cacs, ← List.flatMap_append, List.take_append_drop]
    have hl : (cacs (l.take a)).length = a * 6 := by rw [cacs_len, List.length_take, Nat.min_eq_left h]
    rw [e];exact ⟨by rw [List.take_append_of_le_length (by omega), List.take_of_length_le (by omega)], by rw [List.drop_append_of_le_length (by omega), List.drop_eq_nil_of_le (by omega)]; rfl⟩
  · rw [List.take_of_length_le (by rw [cacs_len]; omega), List.drop_eq_nil_of_le (by rw [cacs_len]; omega), List.take_of_length_le (by omega), List.drop_eq_nil_of_le (by omega)];exact ⟨rfl, rfl⟩
theorem cacs_ins (l : Pln) (a : Nat) (c : Cal) : (cacs l.calls).take (a * 6) ++ cac c ++ (cacs l.calls).drop (a * 6) = cacs (insC l a c).calls := by
  rw [(cacs_take _ _).1, (cacs_take _ _).2];simp [insC, cacs, List.append_assoc]
end Go.Proofs.Ythmldeningpjbaa
