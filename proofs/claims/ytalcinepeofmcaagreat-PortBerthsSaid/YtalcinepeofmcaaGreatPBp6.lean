import Derived.Test.YtalcinepeofmcaaGreatPBp2
import Derived.Test.YtalcinepeofmcaaGreatPBp1
import Derived.IntWalk
import Derived.Test.YtalcinepeofmcaaGreatPBp0
import Derived.WideKeyPair
import Derived.MapKept
import Derived.WalkKit
set_option linter.unusedVariables false
set_option linter.unusedSimpArgs false
set_option maxRecDepth 100000
set_option maxHeartbeats 40000000
namespace Go.Proofs.YtalcinepeofmcaaGreat
open Go Go.RowKit Sp Pt
theorem mp_results {F : Func} {r : Nat} (hF : F.results = #[.cell r 90]) {W : World} {b : Nat} {m : Mp} (h : W.heap[b]? = some (.cells #[.int .i64 m.add, .int .i64 m.floor, .int .i64 m.most] 90 (0, 0))) (tmps : Array Value) (hr : tmps.getD r undef = .pointer (some ⟨b, 0, none⟩)) :
    (results F tmps).run Tryz.prog W = .ok (mpV m) W := by
  have g8 : tmps[r]?.getD undef = .pointer (some ⟨b, 0, none⟩) := by simpa using hr
  have c0 : W.cell? ⟨b, 0, none⟩ = some (.int .i64 m.add) := (cOH h 0).trans rfl;have c1 : W.cell? ⟨b, 1, none⟩ = some (.int .i64 m.floor) := (cOH h 1).trans rfl;have c2 : W.cell? ⟨b, 2, none⟩ = some (.int .i64 m.most) := (cOH h 2).trans rfl;simp [results, hF, g8, asAddr, go_sem, c0, c1, c2]
theorem mp_results2 {F : Func} {r s : Nat} (hF : F.results = #[.cell r 90, .tmp s]) {W : World} {b : Nat} {m : Mp} (h : W.heap[b]? = some (.cells #[.int .i64 m.add, .int .i64 m.floor, .int .i64 m.most] 90 (0, 0))) (tmps : Array Value) (v : Value) (hr : tmps.getD r undef = .pointer (some ⟨b, 0, none⟩)) (hs : tmps.getD s undef = v) :
    (results F tmps).run Tryz.prog W = .ok (.tuple #[mpV m, v]) W := by
  have g8 : tmps[r]?.getD undef = .pointer (some ⟨b, 0, none⟩) := by simpa using hr
  have g9 : tmps[s]?.getD undef = v := by simpa using hs
  have c0 : W.cell? ⟨b, 0, none⟩ = some (.int .i64 m.add) := (cOH h 0).trans rfl;have c1 : W.cell? ⟨b, 1, none⟩ = some (.int .i64 m.floor) := (cOH h 1).trans rfl;have c2 : W.cell? ⟨b, 2, none⟩ = some (.int .i64 m.most) := (cOH h 2).trans rfl;simp [results, hF, g8, g9, asAddr, go_sem, c0, c1, c2]
theorem st3_heap' {W : World} {vb : Nat} {u0 u1 u2 : Value} {t : TypeId} (h : W.heap[vb]? = some (.cells #[u0, u1, u2] t (0, 0))) (x y z : Value) : (((W.setCell ⟨vb, 0, none⟩ x).setCell ⟨vb, 1, none⟩ y).setCell ⟨vb, 2, none⟩ z).heap[vb]? = some (.cells #[x, y, z] t (0, 0)) :=
  hS_ (hS_ (hS_ h 0 x) 1 y) 2 z
theorem st3_below' {B : Nat} {w W : World} {vb : Nat} (h : Below B w W) (hv : B ≤ vb) (x y z : Value) : Below B w (((W.setCell ⟨vb, 0, none⟩ x).setCell ⟨vb, 1, none⟩ y).setCell ⟨vb, 2, none⟩ z) :=
  ((h.setCell hv x).setCell hv y).setCell hv z
def far (x : Int) : Prop := -1000000000000000000 ≤ x ∧ x ≤ 1000000000000000000
def farM (m : Mp) : Prop := far m.add ∧ far m.floor ∧ far m.most
theorem join_any (a m : Mp) (b off c : Nat) (w : World) (hb : b < w.heap.size) (h0 : w.cell? ⟨b, off, none⟩ = some (.int .i64 m.add)) (h1 : w.cell? ⟨b, off + 1, none⟩ = some (.int .i64 m.floor)) (h2 : w.cell? ⟨b, off + 2, none⟩ = some (.int .i64 m.most)) (ha : farM a) (hm : farM m) :
    Calls Tryz.prog 82 #[mpV a, .slice (some ⟨b, off, none⟩) 1 c] w fun e w' => e = .returned (mpV (join1 a m)) ∧ Below w.heap.size w w' := by
  obtain ⟨⟨a1, a2⟩, ⟨a3, a4⟩, ⟨a5, a6⟩⟩ := ha;obtain ⟨⟨m1, m2⟩, ⟨m3, m4⟩, ⟨m5, m6⟩⟩ := hm
  go_enter Tryz.func82, Tryz.ntmps82
  go_upto_region 1 with fail
  obtain ⟨W, hW⟩ : ∃ W, W = (w.alloc (.cells #[.int .i64 a.add, .int .i64 a.floor, .int .i64 a.most] 90)).alloc (.cells #[.int .i64 0, .int .i64 0, .int .i64 0] 90) := ⟨_, rfl⟩;have bW : Below w.heap.size w W := by rw [hW]; exact ((Below.refl _ _).alloc (Nat.le_refl _) _).alloc (by simp) _
  have ho : W.heap[w.heap.size]? = some (.cells #[.int .i64 a.add, .int .i64 a.floor, .int .i64 a.most] 90 (0, 0)) := by rw [hW]; exact hA_ (heap_alloc_new _ _) _
  have hr : W.heap[w.heap.size + 1]? = some (.cells #[.int .i64 0, .int .i64 0, .int .i64 0] 90 (0, 0)) := by
    rw [hW];have := heap_alloc_new (w.alloc (.cells #[.int .i64 a.add, .int .i64 a.floor, .int .i64 a.most] 90)) (.cells #[.int .i64 0, .int .i64 0, .int .i64 0] 90)
    rwa [World.size_alloc] at this
  obtain ⟨ob, hob⟩ : ∃ ob, ob = w.heap.size := ⟨_, rfl⟩;rw [← hW, ← hob];rw [← hob] at ho hr;have d0 := (bW.cell (p := ⟨b, off, none⟩) hb).trans h0;have d1 := (bW.cell (p := ⟨b, off + 1, none⟩) hb).trans h1;have d2 := (bW.cell (p := ⟨b, off + 2, none⟩) hb).trans h2;have hbW : b < W.heap.size ∧ b < ob := ⟨by have := bW.size; omega, by omega⟩;have HB := Lib.hid (And.intro bW (And.intro hob hr));clear hW hob bW hr h0 h1 h2 hb;go_wp2_with fail
  go_loopg [10] (1) (fun g i wr => ∃ k : Nat, g + k = 1 ∧ i = .int .i64 k ∧ Keep [ob] W wr ∧ wr.heap[ob]? = some (.cells (if k = 0 then #[.int .i64 a.add, .int .i64 a.floor, .int .i64 a.most] else #[.int .i64 (join1 a m).add, .int .i64 (join1 a m).floor, .int .i64 (join1 a m).most]) 90 (0, 0)))
  case atStart => exact ⟨0, rfl, rfl, Keep.refl _ _, by simpa using ho⟩
  case round =>
    obtain ⟨k, hk, rfl, hK, hh⟩ := hrel;by_cases hk0 : k = 0
    · subst hk0;rw [if_pos rfl] at hh;have e0 := hK.cell d0 (by simp; omega);have e1 := hK.cell d1 (by simp; omega);have e2 := hK.cell d2 (by simp; omega);have f0 := (cOH hh 0).trans rfl;have f1 := (cOH hh 1).trans rfl;have f2 := (cOH hh 2).trans rfl;have hbr : b < wr.heap.size := Nat.lt_of_lt_of_le hbW.1 hK.size;have hor := hL_ hh;have u0 := fOH hh 0;have u1 := fOH hh 1;have u2 := fOH hh 2;have HK := Lib.hid (And.intro hK hh);clear hK hh d0 d1 d2 ho;go_wp2_with fail
      all_goals
        go_roundg (gk - 1);case measure => omega
        case rel =>
          refine ⟨1, by omega, by go_num, (((HK.out.1.setCell (p := ⟨ob, 0, none⟩) (.inl (by simp)) _).setCell (p := ⟨ob, 1, none⟩) (.inl (by simp)) _).setCell (p := ⟨ob, 2, none⟩) (.inl (by simp)) _).alloc _, (hA_ (st3_heap' HK.out.2 _ _ _) _).trans ?_⟩;rw [if_neg (by decide)];clear HK HB e0 e1 e2 f0 f1 f2 u0 u1 u2;simp only [join1, joinL, NL, Option.some.injEq, Obj.cells.injEq, Array.mk.injEq, List.cons.injEq, Value.int.injEq, true_and, and_true];try simp only [bne_eq_false_iff_eq, bne_iff_ne, ne_eq] at *
          by_cases q : m.most - a.add < a.most;all_goals by_cases q2 : a.most ≤ m.most - a.add
          all_goals first | simp only [if_pos q] at * | simp only [if_neg q] at * | skip
          all_goals first | simp only [if_pos q2] at * | simp only [if_neg q2] at * | skip
          all_goals first
            | omega
            | (refine ⟨?_, ?_, ?_⟩ <;> (repeat' split) <;> omega)
            | (refine ⟨?_, ?_⟩ <;> (repeat' split) <;> omega)
            | ((repeat' split) <;> omega)
    · obtain rfl : k = 1 := by omega
      rw [if_neg (by decide)] at hh;have f0 := (cOH hh 0).trans rfl;have f1 := (cOH hh 1).trans rfl;have f2 := (cOH hh 2).trans rfl;have hR : wr.heap[ob + 1]? = some (.cells #[.int .i64 0, .int .i64 0, .int .i64 0] 90 (0, 0)) := (hK.block _ (hL_ HB.out.2.2) (by simp)).trans HB.out.2.2;have hor := hL_ hh;have u0 := fOH hR 0;have u1 := fOH hR 1;have u2 := fOH hR 2;have g0 := (cOH hR 0).trans rfl;have g1 := (cOH hR 1).trans rfl;have g2 := (cOH hR 2).trans rfl;have hrr := hL_ hR;have HK := Lib.hid (And.intro hK hR);clear hK hh hR d0 d1 d2 ho;go_wp2_with fail
      refine bodyPost_ret (mp_results (r := 4) (m := join1 a m) rfl (st3_heap' HK.out.2 _ _ _) _ rfl) rfl ⟨rfl, ?_⟩;exact st3_below' (HB.out.1.trans ((HK.out.1.below (B := w.heap.size) HB.out.1.size (by simp; have := HB.out.2.1; omega)))) (by have := HB.out.2.1; omega) _ _ _
end Go.Proofs.YtalcinepeofmcaaGreat

namespace Go.Proofs.YtalcinepeofmcaaGreat
open Go Go.RowKit Sp Pt
theorem rin9_any (n lo hi : Int) (w : World) : Calls Tryz.prog 46 #[.int .i64 n, .int .i64 lo, .int .i64 hi] w fun e w' => e = .returned (.bool (within n lo hi)) ∧ w = w' := by
  by_cases h1 : lo ≤ n <;> by_cases h2 : n ≤ hi
  all_goals
    go_enter Tryz.func46, Tryz.ntmps46
    go_wp2_with fail
    go_ret;exact ⟨by simp [within, h1, h2], rfl⟩
theorem rhas_any (A : Option Addr) (c : Nat) (l : List Int) (t : Int) (w : World) (hr : Rd w 1 A l.length (ints l)) (hm : l.length ≤ 9223372036854775807) :
    Calls Tryz.prog 94 #[.slice A l.length c, .int .i64 t] w fun e w' => e = .returned (.bool (l.contains t)) ∧ w = w' := by
  go_enter Tryz.func94, Tryz.ntmps94
  go_wp2_with fail
  go_loopg [5] (l.length) (fun g i wr => ∃ k : Nat, g + k = l.length ∧ i = .int .i64 k ∧ (l.take k).contains t = false ∧ w = wr)
  case atStart => exact ⟨0, rfl, rfl, by simp, rfl⟩
  case round =>
    obtain ⟨k, hk, rfl, hb, rfl⟩ := hrel;have HB := Lib.hid hb;clear hb;by_cases hlt : k < l.length
    · obtain ⟨b, off, rfl, hbb, hc⟩ := hr.2 (by omega);have c0 := hc k _ (iG_ hlt);obtain ⟨x, hx⟩ : ∃ x, x = l.getD k 0 := ⟨_, rfl⟩;rw [← hx] at c0;have hx' : l[k] = x := by rw [hx]; simp [hlt]
      have HX := Lib.hid hx';clear hx hx' hc hr;go_wp2_with fail
      · go_ret;refine ⟨?_, rfl⟩;have h1 : l.contains t = true := by
          rw [List.contains_iff_mem];have : l[k] ∈ l := List.getElem_mem _;rw [HX.out] at this
          rename_i h
          have h' : x = t := by simpa using h
          rw [← h']; exact this
        rw [h1]; rfl
      · go_roundg (gk - 1);case measure => omega
        case rel =>
          refine ⟨k + 1, by omega, by go_num, ?_, rfl⟩;rw [List.take_succ_eq_append_getElem hlt, HX.out];have h2 := HB.out;simp only [List.contains_eq_mem, decide_eq_false_iff_not, List.mem_append, List.mem_singleton] at h2 ⊢;rintro (h | h)
          · exact h2 h
          · simp_all
    · obtain rfl : k = l.length := by omega
      go_wp2_with fail
      go_ret;exact ⟨by have := HB.out; rw [List.take_length] at this; rw [this]; rfl, rfl⟩
theorem idxBad_any (f : Int → Bool) (A : Option Addr) (c : Nat) (l : List Int) (w : World) (hr : Rd w 1 A l.length (ints l)) (hm : l.length ≤ 9223372036854775807)
    (hf : ∀ x ∈ l, ∀ n, Calls Tryz.prog 74 #[.int .i64 x] (w.drewN n) fun e w' => e = .returned (.bool (f x)) ∧ ∃ m, w' = w.drewN m) :
    Calls Tryz.prog 95 #[.slice A l.length c, .func (.func 74) #[] #[]] w fun e w' => ∃ r : Int, e = .returned (.int .i64 r) ∧ decide (0 ≤ r) = l.any f ∧ ∃ m, w' = w.drewN m := by
  go_enter Tryz.func95, Tryz.ntmps95
  go_wp2_with fail
  go_loopg [8] (l.length) (fun g i wr => ∃ k : Nat, g + k = l.length ∧ i = .int .i64 k ∧ (l.take k).any f = false ∧ ∃ m, wr = w.drewN m)
  case atStart => exact ⟨0, rfl, rfl, by simp, 0, rfl⟩
  case round =>
    obtain ⟨k, hk, rfl, hb, m, rfl⟩ := hrel;have HB := Lib.hid hb;clear hb;by_cases hlt : k < l.length
    · obtain ⟨b, off, rfl, hbb, hc⟩ := hr.2 (by omega);have c0 := hc k _ (iG_ hlt);obtain ⟨x, hx⟩ : ∃ x, x = l.getD k 0 := ⟨_, rfl⟩;rw [← hx] at c0;have hx' : l[k] = x := by rw [hx]; simp [hlt]
      have H := hf x (by rw [← hx']; exact List.getElem_mem _) m;obtain ⟨z, hz⟩ : ∃ z, z = f x := ⟨_, rfl⟩;rw [← hz] at H;have hs : (l.take (k + 1)).any f = z := by rw [List.take_succ_eq_append_getElem hlt, List.any_append, HB.out, hx', hz]; simp
      have HH := Lib.hid (And.intro H hs);clear H hs hz hx' hx hc hr hf;cases z
      · go_wp2_with (go_at_call 74; refine HH.out.1.mono ?_; rintro e w' ⟨rfl, m', rfl⟩)
        go_roundg (gk - 1);case measure => omega
        case rel => exact ⟨k + 1, by omega, by go_num, HH.out.2, m', rfl⟩
      · go_wp2_with (go_at_call 74; refine HH.out.1.mono ?_; rintro e w' ⟨rfl, m', rfl⟩)
        go_ret;refine ⟨k, rfl, ?_, m', rfl⟩;have h1 : l.any f = true := by
          obtain ⟨y, hy, hfy⟩ := List.any_eq_true.1 HH.out.2;exact List.any_eq_true.2 ⟨y, List.mem_of_mem_take hy, hfy⟩
        rw [h1]; simp
    · obtain rfl : k = l.length := by omega
      go_wp2_with fail
      go_ret;exact ⟨-1, rfl, by have := HB.out; rw [List.take_length] at this; rw [this]; simp, m, rfl⟩
theorem anyBad_any (f : Int → Bool) (A : Option Addr) (c : Nat) (l : List Int) (w : World) (hr : Rd w 1 A l.length (ints l)) (hm : l.length ≤ 9223372036854775807)
    (hf : ∀ x ∈ l, ∀ n, Calls Tryz.prog 74 #[.int .i64 x] (w.drewN n) fun e w' => e = .returned (.bool (f x)) ∧ ∃ m, w' = w.drewN m) :
    Calls Tryz.prog 73 #[.slice A l.length c, .func (.func 74) #[] #[]] w fun e w' => e = .returned (.bool (l.any f)) ∧ ∃ m, w' = w.drewN m := by
  have H := idxBad_any f  A c l w hr hm hf;clear hf
  go_enter Tryz.func73, Tryz.ntmps73
  go_wp2_with (go_at_call 95; refine H.mono ?_; rintro e w' ⟨r, rfl, hd, m, rfl⟩; have HD := Lib.hid hd; clear hd)
  go_ret;exact ⟨by rw [← HD.out]; rfl, m, rfl⟩
theorem idxOver_any (f : Int → Bool) (c0 c1 : Value) (A : Option Addr) (c : Nat) (l : List Int) (w : World) (hr : Rd w 1 A l.length (ints l)) (hm : l.length ≤ 9223372036854775807)
    (hf : ∀ x ∈ l, ∀ n, Calls Tryz.prog 96 #[.int .i64 x, c0, c1] (w.drewN n) fun e w' => e = .returned (.bool (f x)) ∧ ∃ m, w' = w.drewN m) :
    Calls Tryz.prog 95 #[.slice A l.length c, .func (.func 96) #[] #[c0, c1]] w fun e w' => ∃ r : Int, e = .returned (.int .i64 r) ∧ decide (0 ≤ r) = l.any f ∧ ∃ m, w' = w.drewN m := by
  go_enter Tryz.func95, Tryz.ntmps95
  go_wp2_with fail
  go_loopg [8] (l.length) (fun g i wr => ∃ k : Nat, g + k = l.length ∧ i = .int .i64 k ∧ (l.take k).any f = false ∧ ∃ m, wr = w.drewN m)
  case atStart => exact ⟨0, rfl, rfl, by simp, 0, rfl⟩
  case round =>
    obtain ⟨k, hk, rfl, hb, m, rfl⟩ := hrel;have HB := Lib.hid hb;clear hb;by_cases hlt : k < l.length
    · obtain ⟨b, off, rfl, hbb, hc⟩ := hr.2 (by omega);have c0 := hc k _ (iG_ hlt);obtain ⟨x, hx⟩ : ∃ x, x = l.getD k 0 := ⟨_, rfl⟩;rw [← hx] at c0;have hx' : l[k] = x := by rw [hx]; simp [hlt]
      have H := hf x (by rw [← hx']; exact List.getElem_mem _) m;obtain ⟨z, hz⟩ : ∃ z, z = f x := ⟨_, rfl⟩;rw [← hz] at H;have hs : (l.take (k + 1)).any f = z := by rw [List.take_succ_eq_append_getElem hlt, List.any_append, HB.out, hx', hz]; simp
      have HH := Lib.hid (And.intro H hs);clear H hs hz hx' hx hc hr hf;cases z
      · go_wp2_with (go_at_call 96; refine HH.out.1.mono ?_; rintro e w' ⟨rfl, m', rfl⟩)
        go_roundg (gk - 1);case measure => omega
        case rel => exact ⟨k + 1, by omega, by go_num, HH.out.2, m', rfl⟩
      · go_wp2_with (go_at_call 96; refine HH.out.1.mono ?_; rintro e w' ⟨rfl, m', rfl⟩)
        go_ret;refine ⟨k, rfl, ?_, m', rfl⟩;have h1 : l.any f = true := by
          obtain ⟨y, hy, hfy⟩ := List.any_eq_true.1 HH.out.2;exact List.any_eq_true.2 ⟨y, List.mem_of_mem_take hy, hfy⟩
        rw [h1]; simp
    · obtain rfl : k = l.length := by omega
      go_wp2_with fail
      go_ret;exact ⟨-1, rfl, by have := HB.out; rw [List.take_length] at this; rw [this]; simp, m, rfl⟩
theorem anyOver_any (f : Int → Bool) (c0 c1 : Value) (A : Option Addr) (c : Nat) (l : List Int) (w : World) (hr : Rd w 1 A l.length (ints l)) (hm : l.length ≤ 9223372036854775807)
    (hf : ∀ x ∈ l, ∀ n, Calls Tryz.prog 96 #[.int .i64 x, c0, c1] (w.drewN n) fun e w' => e = .returned (.bool (f x)) ∧ ∃ m, w' = w.drewN m) :
    Calls Tryz.prog 73 #[.slice A l.length c, .func (.func 96) #[] #[c0, c1]] w fun e w' => e = .returned (.bool (l.any f)) ∧ ∃ m, w' = w.drewN m := by
  have H := idxOver_any f c0 c1 A c l w hr hm hf;clear hf
  go_enter Tryz.func73, Tryz.ntmps73
  go_wp2_with (go_at_call 95; refine H.mono ?_; rintro e w' ⟨r, rfl, hd, m, rfl⟩; have HD := Lib.hid hd; clear hd)
  go_ret;exact ⟨by rw [← HD.out]; rfl, m, rfl⟩
theorem indexI_any (A : Option Addr) (c : Nat) (l : List Int) (t : Int) (w : World) (hr : Rd w 1 A l.length (ints l)) (hm : l.length ≤ 9223372036854775807) :
    Calls Tryz.prog 104 #[.slice A l.length c, .int .i64 t] w fun e w' => ∃ r : Int, e = .returned (.int .i64 r) ∧ decide (0 ≤ r) = l.contains t ∧ w = w' := by
  go_enter Tryz.func104, Tryz.ntmps104
  go_wp2_with fail
  go_loopg [8] (l.length) (fun g i wr => ∃ k : Nat, g + k = l.length ∧ i = .int .i64 k ∧ (l.take k).contains t = false ∧ w = wr)
  case atStart => exact ⟨0, rfl, rfl, by simp, rfl⟩
  case round =>
    obtain ⟨k, hk, rfl, hb, rfl⟩ := hrel;have HB := Lib.hid hb;clear hb;by_cases hlt : k < l.length
    · obtain ⟨b, off, rfl, hbb, hc⟩ := hr.2 (by omega);have c0 := hc k _ (iG_ hlt);obtain ⟨x, hx⟩ : ∃ x, x = l.getD k 0 := ⟨_, rfl⟩;rw [← hx] at c0;have hx' : l[k] = x := by rw [hx]; simp [hlt]
      have HX := Lib.hid hx';clear hx hx' hc hr;go_wp2_with fail
      · go_ret;refine ⟨k, rfl, ?_, rfl⟩;have h1 : l.contains t = true := by
          rw [List.contains_iff_mem];have : l[k] ∈ l := List.getElem_mem _;rw [HX.out] at this
          rename_i h
          have h' : t = x := by simpa using h
          rw [h']; exact this
        rw [h1]; simp
      · go_roundg (gk - 1);case measure => omega
        case rel =>
          refine ⟨k + 1, by omega, by go_num, ?_, rfl⟩;rw [List.take_succ_eq_append_getElem hlt, HX.out];have h2 := HB.out;simp only [List.contains_eq_mem, decide_eq_false_iff_not, List.mem_append, List.mem_singleton] at h2 ⊢;rintro (h | h)
          · exact h2 h
          · simp_all
    · obtain rfl : k = l.length := by omega
      go_wp2_with fail
      go_ret;exact ⟨-1, rfl, by have := HB.out; rw [List.take_length] at this; rw [this]; simp, rfl⟩
theorem contI_any (A : Option Addr) (c : Nat) (l : List Int) (t : Int) (w : World) (hr : Rd w 1 A l.length (ints l)) (hm : l.length ≤ 9223372036854775807) :
    Calls Tryz.prog 93 #[.slice A l.length c, .int .i64 t] w fun e w' => e = .returned (.bool (l.contains t)) ∧ w = w' := by
  have H := indexI_any A c l t w hr hm
  go_enter Tryz.func93, Tryz.ntmps93
  go_wp2_with (go_at_call 104; refine H.mono ?_; rintro e w' ⟨r, rfl, hd, rfl⟩; have HD := Lib.hid hd; clear hd)
  go_ret;exact ⟨by rw [← HD.out]; rfl, rfl⟩
theorem stBad_any (n : Int) (w : World) :
    Calls Tryz.prog 74 #[.int .i64 n] w fun e w' => e = .returned (.bool (!within n 0 1000000)) ∧ w = w' := by
  go_enter Tryz.func74, Tryz.ntmps74
  go_wp2_with (go_at_call 45; refine (pWa _ _ _ _).mono ?_; rintro e w' ⟨rfl, rfl⟩)
  go_ret;exact ⟨rfl, rfl⟩
theorem all_take_succ {T : Type} {f : T → Bool} {l : List T} {k : Nat} (hk : k < l.length) (h : (l.take k).all f = true) (hf : f l[k] = true) : (l.take (k + 1)).all f = true := by
  rw [List.take_succ_eq_append_getElem hk, List.all_append, h]; simp [hf]
theorem all_not {T : Type} {f : T → Bool} {l : List T} {k : Nat} (hk : k < l.length) (hf : f l[k] = false) : l.all f = false := by
  cases h : l.all f with
  | false => rfl
  | true => rw [List.all_eq_true.1 h _ (List.getElem_mem hk)] at hf; cases hf
theorem checkP_1 {p : Prt} (h1 : (within p.chs.length 1 6 && within p.bts.length 1 4) = false) : checkP p = 2 := by unfold checkP; rw [if_pos h1]
theorem checkP_2 {p : Prt} (h1 : within p.chs.length 1 6 = true) (h2 : within p.bts.length 1 4 = true) (h3 : within p.tugs 0 20 = false) : checkP p = 100 := by unfold checkP; rw [h1, h2, h3]; rfl
theorem checkP_3 {p : Prt} (h1 : within p.chs.length 1 6 = true) (h2 : within p.bts.length 1 4 = true) (h3 : within p.tugs 0 20 = true) (h4 : p.chs.all chOk = false) : checkP p = 100 := by unfold checkP; rw [h1, h2, h3, h4]; rfl
theorem checkP_4 {p : Prt} (h1 : within p.chs.length 1 6 = true) (h2 : within p.bts.length 1 4 = true) (h3 : within p.tugs 0 20 = true) (h4 : p.chs.all chOk = true) (h5 : p.bts.all (btOk p.chs.length) = false) : checkP p = 100 := by unfold checkP; rw [h1, h2, h3, h4, h5]; rfl
theorem checkP_5 {p : Prt} (h1 : within p.chs.length 1 6 = true) (h2 : within p.bts.length 1 4 = true) (h3 : within p.tugs 0 20 = true) (h4 : p.chs.all chOk = true) (h5 : p.bts.all (btOk p.chs.length) = true) : checkP p = 0 := by unfold checkP; rw [h1, h2, h3, h4, h5]; rfl
theorem pathOk_no {n : Int} {l : List Int} : ∀ {k m : Nat}, k < m → (within (l.getD k 0) 0 (n - 1) && !(l.take k).contains (l.getD k 0)) = false → pathOk n l m = false
  | k, 0, h, _ => absurd h (by omega)
  | k, m + 1, h, hf => by
    by_cases e : k = m
    · subst e; rw [pathOk, hf]; simp
    · rw [pathOk, pathOk_no (by omega) hf]; simp
theorem ptCheck_any (D : Nat) (Ac : Option Addr) (cc : Nat) (Ab : Option Addr) (cb : Nat) (p : Prt) (w : World) (hp : PrtB D w Ac cc Ab cb p) (hD : D ≤ w.heap.size) :
    Calls Tryz.prog 67 #[.agg (prtV Ac cc Ab cb p)] w fun e w' => e = .returned (.int .i64 (checkP p)) ∧ Below w.heap.size w w' := by
  have b0 : Below w.heap.size w (w.alloc (.cells (prtV Ac cc Ab cb p) 25)) := (Below.refl _ _).alloc (Nat.le_refl _) _;cases h1 : within p.chs.length 1 6
  · go_enter Tryz.func67, Tryz.ntmps67
    go_wp2_with (go_at_call 45; refine (pWa _ _ _ _).mono ?_; rintro e w' ⟨rfl, rfl⟩)
    go_ret;exact ⟨by rw [checkP_1 (by rw [h1]; rfl)]; rfl, b0⟩
  cases h2 : within p.bts.length 1 4
  · go_enter Tryz.func67, Tryz.ntmps67
    go_wp2_with (go_at_call 45; refine (pWa _ _ _ _).mono ?_; rintro e w' ⟨rfl, rfl⟩)
    go_ret;exact ⟨by rw [checkP_1 (by rw [h1, h2]; rfl)]; rfl, b0⟩
  cases h3 : within p.tugs 0 20
  · go_enter Tryz.func67, Tryz.ntmps67
    go_wp2_with (go_at_call 45; refine (pWa _ _ _ _).mono ?_; rintro e w' ⟨rfl, rfl⟩)
    go_ret;exact ⟨by rw [checkP_2 h1 h2 h3]; rfl, b0⟩
  have hl1 : 1 ≤ p.chs.length ∧ p.chs.length ≤ 6 := by simp [within] at h1; omega
  have hl2 : 1 ≤ p.bts.length ∧ p.bts.length ≤ 4 := by simp [within] at h2; omega
  obtain ⟨bc, oc, rfl, hbc, hcc⟩ := hp.chs.2 (by omega);have HP := Lib.hid hp;have HB := Lib.hid hcc;clear hp hcc
  go_enter Tryz.func67, Tryz.ntmps67
  go_upto_region 5 with (go_at_call 45; refine (pWa _ _ _ _).mono ?_; rintro e w' ⟨rfl, rfl⟩)
  obtain ⟨W, hW⟩ : ∃ W, W = w.alloc (.cells (prtV (some ⟨bc, oc, none⟩) cc Ab cb p) 25) := ⟨_, rfl⟩;obtain ⟨bx, hbx⟩ : ∃ bx, bx = w.heap.size := ⟨_, rfl⟩;have fp : W.heap[bx]? = some (.cells (prtV (some ⟨bc, oc, none⟩) cc Ab cb p) 25 (0, 0)) := by rw [hW, hbx]; exact heap_alloc_new _ _
  rw [← hW, ← hbx];have b1 : Below w.heap.size w W := by rw [hW]; exact b0
  have f0 : W.cell? ⟨bx, 0, none⟩ = some (.slice (some ⟨bc, oc, none⟩) p.chs.length cc) := (cOH fp 0).trans rfl;have f1 : W.cell? ⟨bx, 1, none⟩ = some (.slice Ab p.bts.length cb) := (cOH fp 1).trans rfl;have hxW := hL_ fp;have HW := Lib.hid (And.intro b1 (And.intro h1 (And.intro h2 h3)));clear hW hbx fp b0 b1 h1 h2 h3;have hbcW : bc < W.heap.size := by have := HW.out.1.size; omega
  go_wp2_with fail
  go_loopg [28] (p.chs.length) (fun g i wr => ∃ k : Nat, g + k = p.chs.length ∧ i = .int .i64 k ∧ (p.chs.take k).all chOk = true ∧ Keep [] W wr)
  case atStart => exact ⟨0, rfl, rfl, by simp, Keep.refl _ _⟩
  case round =>
    obtain ⟨k, hk, rfl, hok, hK⟩ := hrel;by_cases hlt : k < p.chs.length
    · obtain ⟨s0, s1, s2⟩ := chcs_get hlt;obtain ⟨x, hx⟩ : ∃ x, x = p.chs[k] := ⟨_, rfl⟩;rw [← hx] at s0 s1 s2;have bB : Below w.heap.size w wr := HW.out.1.trans (hK.below HW.out.1.size (by simp));have cw : ∀ {o : Nat} {u : Value}, w.cell? ⟨bc, o, none⟩ = some u → wr.cell? ⟨bc, o, none⟩ = some u := fun h => (bB.cell (p := ⟨bc, _, none⟩) (show bc < w.heap.size by omega)).trans h;have d0 := cw (HB.out _ _ s0);have d1 : wr.cell? ⟨bc, oc + k * 3 + 1, none⟩ = some (.int .i64 x.frost) := cw (HB.out _ _ s1);have d2 : wr.cell? ⟨bc, oc + k * 3 + 2, none⟩ = some (.int .i64 x.clear) := cw (HB.out _ _ s2);have hbl : bc < wr.heap.size := by have := hK.size; omega
      have HI := Lib.hid (And.intro hok (And.intro hK (And.intro bB hx)));clear s0 s1 s2 hok hK hx bB cw f0 f1;go_wp2_with (go_at_call 45; refine (pWa _ _ _ _).mono ?_; rintro e w' ⟨rfl, rfl⟩)
      any_goals (go_ret; refine ⟨?_, HI.out.2.2.1.alloc HI.out.2.2.1.size _⟩; rw [checkP_3 HW.out.2.1 HW.out.2.2.1 HW.out.2.2.2 (all_not hlt (by rw [← HI.out.2.2.2]; simp_all [chOk]))]; rfl)
      go_roundg (gk - 1);case measure => omega
      case rel => exact ⟨k + 1, by omega, by go_num, all_take_succ hlt HI.out.1 (by rw [← HI.out.2.2.2]; simp_all [chOk]), HI.out.2.1.alloc _⟩
    · obtain rfl : k = p.chs.length := by omega
      have hal : p.chs.all chOk = true := by rwa [List.take_length] at hok
      have HC := Lib.hid (And.intro hal hK);have f1' := hK.cell f1 (by simp);have f0' := hK.cell f0 (by simp);have hxr : bx < wr.heap.size := by have := hK.size; omega
      clear hal hok hK f0 f1 hk;obtain ⟨w1, hw1⟩ : ∃ w1, w1 = wr := ⟨_, rfl⟩;subst hw1;go_wp2_with fail
      go_loopg [52] (p.bts.length) (fun g i wq => ∃ k : Nat, g + k = p.bts.length ∧ i = .int .i64 k ∧ (p.bts.take k).all (btOk p.chs.length) = true ∧ Keep [] w1 wq)
      case atStart => exact ⟨0, rfl, rfl, by simp, Keep.refl _ _⟩
      case round =>
        obtain ⟨w2, hw2⟩ : ∃ w2, w2 = wr := ⟨_, rfl⟩;subst hw2;obtain ⟨k, hk, rfl, hok, hK⟩ := hrel;by_cases hlt : k < p.bts.length
        · obtain ⟨b, off, Ak, ck, hAb, hbD, d1, d2, d3⟩ := HP.out.bts k hlt;obtain ⟨x, hx⟩ : ∃ x, x = p.bts[k] := ⟨_, rfl⟩;rw [← hx] at d1 d2 d3;obtain ⟨dp, pth⟩ := x;simp only at d1 d2 d3;have bB : Below w.heap.size w w2 := (HW.out.1.trans (HC.out.2.below HW.out.1.size (by simp))).trans (hK.below (by have := HW.out.1.size; have := HC.out.2.size; omega) (by simp));have d1' := (bB.cell (p := ⟨b, off + k * 2, none⟩) (show b < w.heap.size by omega)).trans d1;have d2' := (bB.cell (p := ⟨b, off + k * 2 + 1, none⟩) (show b < w.heap.size by omega)).trans d2;have d3' : PathB w.heap.size w2 Ak ck pth := (d3.mono hD).below bB;have hbl : b < w2.heap.size := by have := bB.size; omega
          have g1 := hK.cell f1' (by simp);have g0 := hK.cell f0' (by simp);have hxq : bx < w2.heap.size := by have := hK.size; omega
          have hkb : btOk p.chs.length p.bts[k] = (within dp 10 3000 && (!decide (pth.length = 0) && pathOk p.chs.length pth pth.length)) := by rw [← hx]; rfl
          have hbad : btOk p.chs.length p.bts[k] = false → checkP p = 100 := fun h => checkP_4 HW.out.2.1 HW.out.2.2.1 HW.out.2.2.2 HC.out.1 (all_not hlt h);have hpl := d3'.1.1;have hpc := d3'.2.1;have hpm := d3'.2.2.1;have HI := Lib.hid (And.intro hok (And.intro hK (And.intro bB (And.intro hkb (And.intro hbad d3')))));subst hAb;clear hok hK hx bB d1 d2 d3 d3' hkb hbad hpl f0' f1';cases hz : within dp 10 3000
          · go_wp2_with (go_at_call 45; refine (pWa _ _ _ _).mono ?_; rintro e w' ⟨rfl, rfl⟩)
            go_ret;exact ⟨by rw [HI.out.2.2.2.2.1 (by rw [HI.out.2.2.2.1, hz]; rfl)]; rfl, HI.out.2.2.1.alloc HI.out.2.2.1.size _⟩
          by_cases hn : pth.length = 0
          · rw [hn] at d2' hpc;go_wp2_with (go_at_call 45; refine (pWa _ _ _ _).mono ?_; rintro e w' ⟨rfl, rfl⟩)
            go_ret;exact ⟨by rw [HI.out.2.2.2.2.1 (by rw [HI.out.2.2.2.1, hz, hn]; rfl)]; rfl, HI.out.2.2.1.alloc HI.out.2.2.1.size _⟩
          have hn0 : ((pth.length : Int) == 0) = false := beq_eq_false_iff_ne.2 (by omega);obtain ⟨gb, rfl⟩ : ∃ gb, gb = gk := ⟨_, rfl⟩;go_upto_region 16 with (go_at_call 45; refine (pWa _ _ _ _).mono ?_; rintro e w' ⟨rfl, rfl⟩)
          obtain ⟨W3, hW3⟩ : ∃ W, W = w2.alloc (.cells #[.int .i64 dp, .slice Ak pth.length ck] 83) := ⟨_, rfl⟩;obtain ⟨bq, hbq⟩ : ∃ bq, bq = w2.heap.size := ⟨_, rfl⟩;have b3 : Below w2.heap.size w2 W3 := by rw [hW3]; exact (Below.refl _ _).alloc (Nat.le_refl _) _
          have q1 : W3.cell? ⟨bq, 1, none⟩ = some (.slice Ak pth.length ck) := by rw [hW3, hbq]; simp [World.cell?_alloc_new]
          have hqw : bq < W3.heap.size := by rw [hW3, hbq]; simp
          have g0' := (b3.cell (p := ⟨bx, 0, none⟩) (show bx < w2.heap.size from hxq)).trans g0;have g1' := (b3.cell (p := ⟨bx, 1, none⟩) (show bx < w2.heap.size from hxq)).trans g1;have p3 : PathB w.heap.size W3 Ak ck pth := HI.out.2.2.2.2.2.below (b3.mono HI.out.2.2.1.size);obtain ⟨bp, op, hAk, hbp, hpc3⟩ := p3.1.2 (by omega);have bwp : bp < W3.heap.size := by have := b3.size; have := HI.out.2.2.1.size; omega
          have hp0 := p3.2.1;rw [← hW3, ← hbq];have H3 := Lib.hid (And.intro b3 (And.intro p3 (And.intro hz (And.intro hpc3 (show ¬ pth.length = 0 from hn)))));have hxq3 : bx < W3.heap.size := by have := b3.size; omega
          subst hAk;clear hW3 hbq b3 g0 g1 d1' d2' p3 hz hpc3 hpc;have hnn : 0 < pth.length := by omega
          clear hn hn0;go_wp2_with fail
          go_loopg [69] (pth.length) (fun g i wi => ∃ j : Nat, g + j = pth.length ∧ i = .int .i64 j ∧ pathOk p.chs.length pth j = true ∧ ∃ m, wi = W3.drewN m)
          case atStart => exact ⟨0, rfl, rfl, rfl, 0, rfl⟩
          case round =>
            obtain ⟨j, hj, rfl, hjk, m, rfl⟩ := hrel;by_cases hlj : j < pth.length
            · obtain ⟨n, hn⟩ : ∃ n, n = pth.getD j 0 := ⟨_, rfl⟩;have c0 : W3.cell? ⟨bp, op + j, none⟩ = some (.int .i64 n) := by rw [hn]; exact H3.out.2.2.2.1 j _ (iG_ hlj)
              have hS : pathOk p.chs.length pth (j + 1) = (pathOk p.chs.length pth j && (within n 0 ((p.chs.length : Int) - 1) && !(pth.take j).contains n)) := by rw [hn]; rfl
              have hN : (within n 0 ((p.chs.length : Int) - 1) && !(pth.take j).contains n) = false → pathOk p.chs.length pth pth.length = false := fun h => pathOk_no hlj (by rw [← hn]; exact h);have htk : (pth.take j).length = j := by rw [List.length_take]; omega
              have hct := contI_any (some ⟨bp, op, none⟩) ck (pth.take j) n (W3.drewN m) (by
                rw [htk];refine ⟨by simp [ints]; omega, fun _ => ⟨bp, op, rfl, bwp, fun i u hu => H3.out.2.2.2.1 i u ?_⟩⟩;have hi : i < (pth.take j).length := by have := (List.getElem?_eq_some_iff.1 hu).1; simpa [ints] using this
                rw [iG_ hi] at hu;rw [iG_ (by omega), ← hu];simp [List.getD_eq_getElem?_getD, List.getElem?_take, show i < j from by omega]) (by omega)
              rw [htk] at hct;obtain ⟨z, hzz⟩ : ∃ z, z = (pth.take j).contains n := ⟨_, rfl⟩;rw [← hzz] at hct hS hN;have HJ := Lib.hid (And.intro hct (And.intro hS (And.intro hN (And.intro hjk hn))));clear hct hS hN hjk hn hzz;cases hw : within n 0 ((p.chs.length : Int) - 1)
              · go_wp2_with (go_at_call 45; refine (pWa _ _ _ _).mono ?_; rintro e w' ⟨rfl, rfl⟩)
                go_ret;refine ⟨?_, (HI.out.2.2.1.trans (H3.out.1.mono HI.out.2.2.1.size)).trans ⟨rfl, rfl, rfl, Nat.le_refl _, fun _ _ => rfl⟩⟩;rw [HI.out.2.2.2.2.1 (by rw [HI.out.2.2.2.1, H3.out.2.2.1, HJ.out.2.2.1 (by rw [hw]; rfl)]; simp)]; rfl
              · have hjc : (j : Int) ≤ (ck : Int) := by omega
                cases z
                · go_wp2_with (first | (go_at_call 45; refine (pWa _ _ _ _).mono ?_; rintro e w' ⟨rfl, rfl⟩) | (go_at_call 93; refine HJ.out.1.mono ?_; rintro e w' ⟨rfl, rfl⟩))
                  go_roundg (gk - 1);case measure => omega
                  case rel => exact ⟨j + 1, by omega, by go_num, by rw [HJ.out.2.1, HJ.out.2.2.2.1, hw]; rfl, m, rfl⟩
                · go_wp2_with (first | (go_at_call 45; refine (pWa _ _ _ _).mono ?_; rintro e w' ⟨rfl, rfl⟩) | (go_at_call 93; refine HJ.out.1.mono ?_; rintro e w' ⟨rfl, rfl⟩))
                  go_ret;refine ⟨?_, (HI.out.2.2.1.trans (H3.out.1.mono HI.out.2.2.1.size)).trans ⟨rfl, rfl, rfl, Nat.le_refl _, fun _ _ => rfl⟩⟩;rw [HI.out.2.2.2.2.1 (by rw [HI.out.2.2.2.1, H3.out.2.2.1, HJ.out.2.2.1 (by rw [hw]; rfl)]; simp)]; rfl
            · obtain rfl : j = pth.length := by omega
              have HL := Lib.hid hjk;clear hjk;go_wp2_with fail
              go_roundg (gb - 1);case measure => omega
              case rel =>
                refine ⟨k + 1, by omega, by go_num, all_take_succ hlt HI.out.1 (by rw [HI.out.2.2.2.1, H3.out.2.2.1, HL.out]; simp; have := H3.out.2.2.2.2; intro h; rw [h] at this; simp at this), ?_⟩;exact (HI.out.2.1.trans (Keep.of_below (S := []) H3.out.1) (by simp)).drewN m
        · obtain rfl : k = p.bts.length := by omega
          have hal : p.bts.all (btOk p.chs.length) = true := by rwa [List.take_length] at hok
          have bB : Below w.heap.size w w2 := (HW.out.1.trans (HC.out.2.below HW.out.1.size (by simp))).trans (hK.below (by have := HW.out.1.size; have := HC.out.2.size; omega) (by simp));have HE := Lib.hid (And.intro hal bB);clear hal hok hK bB;go_wp2_with fail
          go_ret;exact ⟨by rw [checkP_5 HW.out.2.1 HW.out.2.2.1 HW.out.2.2.2 HC.out.1 HE.out.1]; rfl, HE.out.2⟩
abbrev caV (c : Cal) : Array Value := #[.int .i64 c.hour, .int .i64 c.berth, .bool c.out, .int .i64 c.draught, .int .i64 c.most, .int .i64 c.tugs]
theorem callE_b {p : Prt} {h : Int} {c : Cal} {f : Int} (h1 : (within c.berth 0 ((p.bts.length : Int) - 1) && (within c.most 0 1000000 && within c.tugs 0 20)) = false) : callE p h c f = 1 := by unfold callE; rw [if_pos h1]
theorem callE_c {p : Prt} {h : Int} {c : Cal} {f : Int} (h1 : (within c.berth 0 ((p.bts.length : Int) - 1) && (within c.most 0 1000000 && within c.tugs 0 20)) = true) : callE p h c f = if within c.draught 10 (bt p c.berth).depth = false then 100 else if within c.hour 0 (h - 1) = false then 12 else if c.hour < f then 11 else 0 := by unfold callE; rw [if_neg (by rw [h1]; decide)]
theorem ptCall_any (pb : Nat) (Ac : Option Addr) (cc : Nat) (Ab : Option Addr) (cb : Nat) (p : Prt) (Al : Option Addr) (cl : Nat) (As : Option Addr) (cs : Nat) (l : Pln) (c : Cal) (f : Int) (D : Nat) (w : World)
    (hp : w.heap[pb]? = some (.cells (prtV Ac cc Ab cb p) 25 (0, 0))) (hb : BtsB D w Ab p.bts) (hD : D ≤ w.heap.size) (hl : p.bts.length ≤ 1000) (hh : 1 ≤ l.hours ∧ l.hours ≤ 1000) :
    Calls Tryz.prog 80 #[.pointer (some ⟨pb, 0, none⟩), .agg (plnV Al cl As cs l), .agg (caV c), .int .i64 f] w fun e w' => e = .returned (.int .i64 (callE p l.hours c f)) ∧ Below w.heap.size w w' := by
  obtain ⟨hh1, hh2⟩ := hh;obtain ⟨h0, be, ou, dr, mo, tu⟩ := c;have p1 : w.cell? ⟨pb, 1, none⟩ = some (.slice Ab p.bts.length cb) := (cOH hp 1).trans rfl;have hpw := hL_ hp;obtain ⟨a1, ha1⟩ : ∃ a, a = within be 0 ((p.bts.length : Int) - 1) := ⟨_, rfl⟩;obtain ⟨a2, ha2⟩ : ∃ a, a = within mo 0 1000000 := ⟨_, rfl⟩;obtain ⟨a3, ha3⟩ : ∃ a, a = within tu 0 20 := ⟨_, rfl⟩;have k1 : ∀ wx, Calls Tryz.prog 45 #[.int .i64 be, .int .i64 0, .int .i64 ((p.bts.length : Int) - 1)] wx fun e w' => e = .returned (.bool a1) ∧ wx = w' := fun wx => by rw [ha1]; exact pWa _ _ _ wx
  have k2 : ∀ wx, Calls Tryz.prog 45 #[.int .i64 mo, .int .i64 0, .int .i64 1000000] wx fun e w' => e = .returned (.bool a2) ∧ wx = w' := fun wx => by rw [ha2]; exact pWa _ _ _ wx
  have k3 : ∀ wx, Calls Tryz.prog 45 #[.int .i64 tu, .int .i64 0, .int .i64 20] wx fun e w' => e = .returned (.bool a3) ∧ wx = w' := fun wx => by rw [ha3]; exact pWa _ _ _ wx
  have bb : ∀ o o', Below w.heap.size w ((w.alloc o).alloc o') := fun o o' => ((Below.refl _ _).alloc (Nat.le_refl _) _).alloc (by simp) _;have HA := Lib.hid (And.intro ha1 (And.intro ha2 (And.intro ha3 (And.intro k1 (And.intro k2 (And.intro k3 bb))))));have HP := Lib.hid (And.intro hp hb);clear ha1 ha2 ha3 k1 k2 k3 hp hb bb;cases a1
  · cases a2 <;> cases a3
    all_goals
      go_enter Tryz.func80, Tryz.ntmps80
      go_upto_region 1 with fail
      go_quiet ((go_at_call 45; first | with_reducible exact Calls.quiet_of_same ((HA.out.2.2.2.1 _).mono fun e W' ⟨h1, h2⟩ => ⟨h1, h2.symm⟩) | with_reducible exact Calls.quiet_of_same ((HA.out.2.2.2.2.1 _).mono fun e W' ⟨h1, h2⟩ => ⟨h1, h2.symm⟩) | with_reducible exact Calls.quiet_of_same ((HA.out.2.2.2.2.2.1 _).mono fun e W' ⟨h1, h2⟩ => ⟨h1, h2.symm⟩)));go_wp2_with fail
      go_ret;exact ⟨by rw [callE_b (by rw [← HA.out.1, ← HA.out.2.1, ← HA.out.2.2.1]; rfl)]; rfl, below_drewN (HA.out.2.2.2.2.2.2 _ _) _⟩
  · cases a2
    · cases a3;all_goals
        go_enter Tryz.func80, Tryz.ntmps80
        go_upto_region 1 with fail
        go_quiet ((go_at_call 45; first | with_reducible exact Calls.quiet_of_same ((HA.out.2.2.2.1 _).mono fun e W' ⟨h1, h2⟩ => ⟨h1, h2.symm⟩) | with_reducible exact Calls.quiet_of_same ((HA.out.2.2.2.2.1 _).mono fun e W' ⟨h1, h2⟩ => ⟨h1, h2.symm⟩) | with_reducible exact Calls.quiet_of_same ((HA.out.2.2.2.2.2.1 _).mono fun e W' ⟨h1, h2⟩ => ⟨h1, h2.symm⟩)));go_wp2_with fail
        go_ret;exact ⟨by rw [callE_b (by rw [← HA.out.1, ← HA.out.2.1, ← HA.out.2.2.1]; rfl)]; rfl, below_drewN (HA.out.2.2.2.2.2.2 _ _) _⟩
    · cases a3
      · skip
        go_enter Tryz.func80, Tryz.ntmps80
        go_upto_region 1 with fail
        go_quiet ((go_at_call 45; first | with_reducible exact Calls.quiet_of_same ((HA.out.2.2.2.1 _).mono fun e W' ⟨h1, h2⟩ => ⟨h1, h2.symm⟩) | with_reducible exact Calls.quiet_of_same ((HA.out.2.2.2.2.1 _).mono fun e W' ⟨h1, h2⟩ => ⟨h1, h2.symm⟩) | with_reducible exact Calls.quiet_of_same ((HA.out.2.2.2.2.2.1 _).mono fun e W' ⟨h1, h2⟩ => ⟨h1, h2.symm⟩)));go_wp2_with fail
        go_ret;exact ⟨by rw [callE_b (by rw [← HA.out.1, ← HA.out.2.1, ← HA.out.2.2.1]; rfl)]; rfl, below_drewN (HA.out.2.2.2.2.2.2 _ _) _⟩
      · have hk := HA.out.1.symm;have hk' : 0 ≤ be ∧ be < p.bts.length := by simp [within] at hk; omega
        obtain ⟨k, hkb⟩ : ∃ k : Nat, be = k := ⟨be.toNat, by omega⟩;have hk2 : k < p.bts.length := by omega
        obtain ⟨b, off, Ak, ck, rfl, hbD, d1, d2, d3⟩ := HP.out.2 k hk2;have hbt : bt p be = p.bts[k] := by simp [bt, hkb, hk2]
        obtain ⟨dp, hdp⟩ : ∃ d, d = p.bts[k].depth := ⟨_, rfl⟩;rw [← hdp] at d1;have hbw : b < w.heap.size := by omega
        obtain ⟨a4, ha4⟩ : ∃ a, a = within dr 10 dp := ⟨_, rfl⟩;have k4 : ∀ wx, Calls Tryz.prog 45 #[.int .i64 dr, .int .i64 10, .int .i64 dp] wx fun e w' => e = .returned (.bool a4) ∧ wx = w' := fun wx => by rw [ha4]; exact pWa _ _ _ wx
        have H4 := Lib.hid (And.intro k4 (And.intro ha4 (And.intro hdp hbt)));have hk3 : ((k : Nat) : Int) < (p.bts.length : Int) := by omega
        clear k4 ha4 hdp hbt d2 d3 hk hk';subst hkb
        go_enter Tryz.func80, Tryz.ntmps80
        go_upto_region 1 with fail
        go_quiet ((go_at_call 45; first | with_reducible exact Calls.quiet_of_same ((HA.out.2.2.2.1 _).mono fun e W' ⟨h1, h2⟩ => ⟨h1, h2.symm⟩) | with_reducible exact Calls.quiet_of_same ((HA.out.2.2.2.2.1 _).mono fun e W' ⟨h1, h2⟩ => ⟨h1, h2.symm⟩) | with_reducible exact Calls.quiet_of_same ((HA.out.2.2.2.2.2.1 _).mono fun e W' ⟨h1, h2⟩ => ⟨h1, h2.symm⟩)));go_upto_region 3 with fail
        have e0 := d1; have e1 := p1;cases a4
        · go_quiet ((go_at_call 45; refine (H4.out.1 _).mono ?_; rintro e W1 ⟨rfl, rfl⟩; exact ⟨rfl, _, rfl⟩));go_wp2_with fail
          go_ret;exact ⟨by rw [callE_c (by rw [← HA.out.1, ← HA.out.2.1, ← HA.out.2.2.1]; rfl), H4.out.2.2.2, ← H4.out.2.2.1, ← H4.out.2.1]; rfl, by first | exact below_drewN (HA.out.2.2.2.2.2.2 _ _) _ | exact below_drewN (below_drewN (HA.out.2.2.2.2.2.2 _ _) _) _⟩
        · go_quiet ((go_at_call 45; refine (H4.out.1 _).mono ?_; rintro e W1 ⟨rfl, rfl⟩; exact ⟨rfl, _, rfl⟩));go_wp2_with (go_at_call 45; refine (pWa _ _ _ _).mono ?_; rintro e w' ⟨rfl, rfl⟩)
          all_goals
            go_ret;refine ⟨?_, by first | exact below_drewN (HA.out.2.2.2.2.2.2 _ _) _ | exact below_drewN (below_drewN (HA.out.2.2.2.2.2.2 _ _) _) _⟩;rw [callE_c (by rw [← HA.out.1, ← HA.out.2.1, ← HA.out.2.2.1]; rfl), H4.out.2.2.2, ← H4.out.2.2.1, ← H4.out.2.1];first | (simp [*]; done) | (simp_all; done)
end Go.Proofs.YtalcinepeofmcaaGreat
namespace Go.Proofs.YtalcinepeofmcaaGreat
open Go Go.RowKit Go.WideMaps
def MapI (P : Program) (k : TypeId) (w : World) (mb n : Nat) (f : Value → Int) : Prop :=
  ∃ es clock, w.heap[mb]? = some (.map es clock) ∧ es.size ≤ n ∧ MapKept.Stamped es clock ∧ (∀ x ∈ es.toList, (∃ l, keyOf P k x.key = some l) ∧ x.val = .int .i64 (f x.key)) ∧
    ∀ key, (∀ x ∈ es.toList, x.key ≠ key) → f key = 0
def MapIAt (P : Program) (k : TypeId) (w : World) (mb n : Nat) (f : Value → Int) (key : Value) (st : Nat) : Prop :=
  ∃ es clock, w.heap[mb]? = some (.map es clock) ∧ es.size ≤ n ∧ MapKept.Stamped es clock ∧ (∀ x ∈ es.toList, (∃ l, keyOf P k x.key = some l) ∧ x.val = .int .i64 (f x.key)) ∧
    (∀ key, (∀ x ∈ es.toList, x.key ≠ key) → f key = 0) ∧ ∃ (j : Nat) (e0 : MapEntry), es[j]? = some e0 ∧ e0.key = key ∧ e0.born = st
section
variable {P : Program} {k t e : TypeId} {w w' : World} {mb n : Nat} {f : Value → Int}
theorem MapI.lt (h : MapI P k w mb n f) : mb < w.heap.size := by obtain ⟨es, clock, hb, _⟩ := h; exact hL_ hb
theorem MapI.made (w : World) : MapI P k (w.alloc (.map #[] 0)) w.heap.size 0 (fun _ => 0) :=
  ⟨#[], 0, heap_alloc_new w _, Nat.le_refl _, MapKept.stamped_empty 0, by simp, fun _ _ => rfl⟩
theorem MapI.of_heap (h : MapI P k w mb n f) (hb : w'.heap[mb]? = w.heap[mb]?) : MapI P k w' mb n f := by
  obtain ⟨es, clock, h1, h2⟩ := h;exact ⟨es, clock, hb.trans h1, h2⟩
theorem MapI.mono (h : MapI P k w mb n f) {n' : Nat} (hn : n ≤ n') : MapI P k w mb n' f := by
  obtain ⟨es, clock, h1, h2, h3⟩ := h;exact ⟨es, clock, h1, by omega, h3⟩
theorem MapI.congr (h : MapI P k w mb n f) {g : Value → Int} (hg : ∀ v, f v = g v) : MapI P k w mb n g := by
  obtain rfl : f = g := funext hg;exact h
theorem MapIAt.mapI {key : Value} {st : Nat} (h : MapIAt P k w mb n f key st) : MapI P k w mb n f := by
  obtain ⟨es, clock, h1, h2, h3, h4, h5, _⟩ := h;exact ⟨es, clock, h1, h2, h3, h4, h5⟩
variable (K : KeyLaw P k) (ht : P.underlying t = some (.map k e)) (hz : ∀ u : World, (zeroValue e).run P u = .ok (.int .i64 0) u)
include K ht hz
theorem MapI.look (h : MapI P k w mb n f) {key : Value} {kl : Lit} (hkey : keyOf P k key = some kl) : (Instr.lookup t (.map (some mb)) key false).run P w = .ok (.int .i64 (f key)) w := by
  obtain ⟨es, clock, hb, _, _, h4, h5⟩ := h;rcases K.find w hkey es.toList (fun x hx => (h4 x hx).1) with ⟨h1, h2⟩ | ⟨j, e0, h1, h2, h3⟩
  · simp [Instr.lookup, run_underlying ht, MapKept.run_getObj_map hb, K.check w _ hkey, h1, hz, Result.andThen, h5 key h2]
  · have := (h4 e0 (List.mem_of_getElem? h2)).2;rw [h3] at this;simp [Instr.lookup, run_underlying ht, MapKept.run_getObj_map hb, K.check w _ hkey, h1, Result.andThen, this]
theorem MapI.entry (h : MapI P k w mb n f) {key : Value} {kl : Lit} (hkey : keyOf P k key = some kl) :
    ∃ (st : Nat) (w' : World), (Instr.mapEntry t (.map (some mb)) key).run P w = .ok (.tuple #[.int .i64 (f key), goInt st]) w' ∧ MapIAt P k w' mb (n + 1) f key st ∧ Keep [mb] w w' ∧ w'.heap.size = w.heap.size := by
  obtain ⟨es, clock, hb, hn, hs, h4, h5⟩ := h;have kp : ∀ o : Obj, Keep [mb] w { w with heap := w.heap.setIfInBounds mb o } := fun o => ⟨rfl, rfl, rfl, by simp, fun i hi hne => by
    simp only [List.mem_singleton] at hne;exact Array.getElem?_setIfInBounds_ne (fun e => hne e.symm)⟩
  have hh : ∀ o : Obj, ({ w with heap := w.heap.setIfInBounds mb o } : World).heap[mb]? = some o := fun o => (MapKept.heap_set hb).1;rcases K.find w hkey es.toList (fun x hx => (h4 x hx).1) with ⟨h1, h2⟩ | ⟨j, e0, h1, h2, h3⟩
  · refine ⟨clock, _, ?_, ⟨es.push ⟨key, .int .i64 0, clock⟩, clock + 1, hh _, by simp; omega, MapKept.stamped_push hs h2, ?_, ?_, es.size, ⟨key, .int .i64 0, clock⟩, by simp, rfl, rfl⟩, kp _, by simp⟩
    · simp [Instr.mapEntry, run_underlying ht, MapKept.run_getObj_map hb, K.check w false hkey, h1, hz, MapKept.run_setObj_map _ hb, Result.andThen, h5 key h2]
    · intro x hx;rw [Array.toList_push] at hx;rcases List.mem_append.1 hx with hx | hx
      · exact h4 x hx
      · rw [List.mem_singleton.1 hx];exact ⟨⟨kl, hkey⟩, by rw [h5 key h2]⟩
    · intro key' hk';refine h5 key' fun x hx => hk' x ?_;rw [Array.toList_push];exact List.mem_append_left _ hx
  · have hj : es[j]? = some e0 := by simpa using h2
    have hjl : j < es.size := (Array.getElem?_eq_some_iff.1 hj).1;have hv := (h4 e0 (List.mem_of_getElem? h2)).2;rw [h3] at hv;have hsame : es.modify j (fun e => { e with key := key }) = es := by
      apply Array.ext_getElem?;intro i;rw [Array.getElem?_modify];by_cases e : j = i
      · subst e;rw [if_pos rfl, hj];simp [← h3]
      · rw [if_neg e]
    refine ⟨e0.born, _, ?_, ⟨es, clock, hh _, by omega, hs, h4, h5, j, e0, hj, h3, rfl⟩, kp _, by simp⟩;simp [Instr.mapEntry, run_underlying ht, MapKept.run_getObj_map hb, K.check w false hkey, h1, hj, h3, K.stays w hkey, hsame, MapKept.run_setObj_map _ hb, Result.andThen, hv]
omit K ht hz in
theorem MapIAt.store {key : Value} {st : Nat} (h : MapIAt P k w mb n f key st) (x : Int) (g : Value → Int) (hg : g key = x) (hg2 : ∀ v, v ≠ key → g v = f v) :
    ∃ w', (Instr.entryStore t (.map (some mb)) (goInt st) (.int .i64 x)).run P w = .ok () w' ∧ MapI P k w' mb n g ∧ Keep [mb] w w' ∧ w'.heap.size = w.heap.size := by
  obtain ⟨es, clock, hb, hn, hs, h4, h5, j, e0, hj, hk, rfl⟩ := h;have hjl : j < es.size := (Array.getElem?_eq_some_iff.1 hj).1;obtain ⟨s1, s2, s3⟩ := (MapKept.stamped_iff es clock).1 hs;have hidx : es.findIdx? (fun e => ((e.born : Nat) : Int) == ((e0.born : Nat) : Int)) = some j := by
    have hfi : ∀ (l : List MapEntry), (l.map (·.born)).Nodup → ∀ {j : Nat} {e0 : MapEntry}, l[j]? = some e0 → l.findIdx? (fun e => ((e.born : Nat) : Int) == ((e0.born : Nat) : Int)) = some j := by
      intro l;induction l with
      | nil => intro _ j e0 h; simp at h
      | cons a r ih =>
        intro hn j e0 h;simp only [List.map_cons, List.nodup_cons] at hn;cases j with
        | zero =>
          simp only [List.getElem?_cons_zero, Option.some.injEq] at h;subst h;simp [List.findIdx?_cons]
        | succ j =>
          simp only [List.getElem?_cons_succ] at h;have hne : a.born ≠ e0.born := fun e1 => hn.1 (List.mem_map.2 ⟨e0, List.mem_of_getElem? h, e1.symm⟩);have hb : (((a.born : Nat) : Int) == ((e0.born : Nat) : Int)) = false := by
            simp only [beq_eq_false_iff_ne, ne_eq, Int.natCast_inj];exact hne
          rw [List.findIdx?_cons, hb];simp [ih hn.2 h]
    have := hfi es.toList s2 (j := j) (e0 := e0) (by simpa using hj);cases es;simpa using this
  have hnew : ∀ y ∈ (es.modify j (fun e => { e with val := .int .i64 x })).toList, ∃ z ∈ es.toList, y.key = z.key ∧ y.val = .int .i64 (g z.key) := by
    intro y hy;obtain ⟨i, hi⟩ := List.mem_iff_getElem?.1 hy;rw [Array.getElem?_toList, Array.getElem?_modify] at hi;by_cases e : j = i
    · subst e;rw [if_pos rfl, hj] at hi;simp only [Option.map_some, Option.some.injEq] at hi;refine ⟨e0, List.mem_of_getElem? (i := j) (by simpa using hj), by rw [← hi], ?_⟩;rw [← hi, hk, hg]
    · rw [if_neg e] at hi;have hm : y ∈ es.toList := List.mem_of_getElem? (i := i) (by simpa using hi);refine ⟨y, hm, rfl, ?_⟩;have hne : y.key ≠ key := by
        rw [← hk];have e1 : es.toList[j]? = some e0 := by simpa using hj
        have e2 : es.toList[i]? = some y := by simpa using hi
        obtain ⟨l1, g1⟩ := List.getElem?_eq_some_iff.1 e1;obtain ⟨l2, g2⟩ := List.getElem?_eq_some_iff.1 e2;rw [← g1, ← g2];rcases Nat.lt_or_ge i j with q | q
        · exact (List.pairwise_iff_getElem.1 s3 i j l2 l1 q)
        · exact Ne.symm (List.pairwise_iff_getElem.1 s3 j i l1 l2 (by omega))
      rw [hg2 _ hne];exact (h4 y hm).2
  refine ⟨{ w with heap := w.heap.setIfInBounds mb (.map (es.modify j (fun e => { e with val := .int .i64 x })) clock) }, ?_, ⟨es.modify j (fun e => { e with val := .int .i64 x }), clock, (MapKept.heap_set hb).1, by simpa using hn, ?_, ?_, ?_⟩, ⟨rfl, rfl, rfl, by simp, fun i hi hne => ?_⟩, by simp⟩
  · simp [Instr.entryStore, MapKept.run_getObj_map hb, asInt, asIntOf, goInt, hidx, MapKept.run_setObj_map _ hb, Result.andThen]
  · exact MapKept.stamped_modify hs j _ (fun _ _ => rfl) (fun _ _ _ => rfl)
  · intro y hy;obtain ⟨z, hz, e1, e2⟩ := hnew y hy;exact ⟨by rw [e1]; exact (h4 z hz).1, by rw [e2, e1]⟩
  · intro key' hk';have hm0 : e0 ∈ es.toList := List.mem_of_getElem? (i := j) (by simpa using hj);have hmap : ∀ z ∈ es.toList, ∃ y ∈ (es.modify j (fun e => { e with val := .int .i64 x })).toList, y.key = z.key := by
      intro z hz;obtain ⟨i, hi⟩ := List.mem_iff_getElem?.1 hz;by_cases e : j = i
      · subst e;refine ⟨{ z with val := .int .i64 x }, List.mem_of_getElem? (i := j) ?_, rfl⟩;rw [Array.getElem?_toList, Array.getElem?_modify, if_pos rfl];rw [Array.getElem?_toList] at hi;rw [hi]; rfl
      · refine ⟨z, List.mem_of_getElem? (i := i) ?_, rfl⟩;rw [Array.getElem?_toList, Array.getElem?_modify, if_neg e];simpa using hi
    have hno : ∀ z ∈ es.toList, z.key ≠ key' := fun z hz => by
      obtain ⟨y, hy, e1⟩ := hmap z hz;rw [← e1]; exact hk' y hy
    have hne : key' ≠ key := fun e => hno e0 hm0 (by rw [hk, e]);rw [hg2 _ hne];exact h5 key' hno
  · simp only [List.mem_singleton] at hne;exact Array.getElem?_setIfInBounds_ne (fun e => hne e.symm)
end
end Go.Proofs.YtalcinepeofmcaaGreat
namespace Go.Proofs.YtalcinepeofmcaaGreat
open Go
def loopsOf : Code → List Code
  | .loop c => c :: loopsOf c
  | .seq a b => loopsOf a ++ loopsOf b
  | .block _ c => loopsOf c
  | .scope c => loopsOf c
  | .cond _ a b => loopsOf a ++ loopsOf b
  | _ => []
noncomputable def loopBody (f : Func) (i : Nat) : Code := ((loopsOf (f.body.getD .skip))[i]?).getD .skip
end Go.Proofs.YtalcinepeofmcaaGreat
