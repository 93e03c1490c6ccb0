import Derived.Test.YthmldeningpjbaaPRp8
import Derived.Sort.QuietIn
import Derived.Test.YthmldeningpjbaaPRp2
import Derived.Test.YthmldeningpjbaaPRp0
import Derived.Test.YthmldeningpjbaaProg
import Derived.Deep.DeepCutAuto
import Derived.Test.YthmldeningpjbaaPRp5
set_option linter.unusedVariables false
set_option linter.unusedSimpArgs false
set_option maxRecDepth 100000
set_option maxHeartbeats 40000000
namespace Go.Proofs.Ythmldeningpjbaa
open Go Go.RowKit Sp Pt
def newQ (w w' : World) : List Nat := (List.range w'.heap.size).filter (fun x => decide (w.heap.size ≤ x))
theorem mem_newQ {w w' : World} {x : Nat} : x ∈ newQ w w' ↔ w.heap.size ≤ x ∧ x < w'.heap.size := by simp [newQ, and_comm]
def noIt : It := .gen [] (fun _ => True)
section
variable {D : Nat} {W0 w w' : World} {L : List It}
theorem Own.blank (h : Own D W0 L w) : Own D W0 (L ++ [noIt]) w := h.add (i := noIt) ⟨by simp, fun _ _ _ _ => trivial⟩ (by simp [noIt, It.fp]) (by simp [noIt, It.fp])
theorem Own.newG (h : Own D W0 L w) (k : Nat) (hi : L[k]? = some noIt) {q : List Nat} {P : World → Prop} (hb : Below w.heap.size w w') (hh : (It.gen q P).holds D w') (hf : ∀ x ∈ q, w.heap.size ≤ x) : Own D W0 (L.set k (.gen q P)) w' :=
  h.upd k hi (Keep.of_below hb) hh (fun x hx => .inr (hf x hx))
theorem Own.newB (h : Own D W0 L w) (k : Nat) (hi : L[k]? = some noIt) (o : Obj) : Own D W0 (L.set k (.blk w.heap.size o)) (w.alloc o) :=
  h.upd k hi ((Keep.refl _ _).alloc _) (heap_alloc_new w o) (fun x hx => .inr (by rw [List.mem_singleton.1 hx]; exact Nat.le_refl _))
theorem Own.thing (h : Own D W0 L w) (k : Nat) {q : List Nat} {P : World → Prop} (hi : L[k]? = some (.gen q P)) : P w := (h.get k hi).2 [] w (Keep.refl _ _) (by simp)
end
def PrtH (Ac : Option Addr) (cc : Nat) (Ab : Option Addr) (cb : Nat) (p : Prt) : World → Prop := fun w => PrtB w.heap.size w Ac cc Ab cb p
def PlnH (Al : Option Addr) (cl : Nat) (As : Option Addr) (cs : Nat) (l : Pln) : World → Prop := fun w => PlnB w.heap.size w Al cl As cs l
def NewPrt (w : World) (p : Prt) (e : Ending) (w' : World) : Prop := ∃ Ac1 cc1 Ab1 cb1 q, e = .returned (.agg (prtV Ac1 cc1 Ab1 cb1 p)) ∧ (∀ D, (It.gen q (PrtH Ac1 cc1 Ab1 cb1 p)).holds D w') ∧ (∀ x ∈ q, w.heap.size ≤ x) ∧ Below w.heap.size w w'
def NewPln (w : World) (l : Pln) (e : Ending) (w' : World) : Prop := ∃ Al1 cl1 As1 cs1 q, e = .returned (.agg (plnV Al1 cl1 As1 cs1 l)) ∧ (∀ D, (It.gen q (PlnH Al1 cl1 As1 cs1 l)).holds D w') ∧ (∀ x ∈ q, w.heap.size ≤ x) ∧ Below w.heap.size w w'
theorem NewPrt.use {w w' : World} {p : Prt} {e : Ending} (h : NewPrt w p e w') : ∃ Ac1 cc1 Ab1 cb1, e = .returned (.agg (prtV Ac1 cc1 Ab1 cb1 p)) ∧ PrtB w'.heap.size w' Ac1 cc1 Ab1 cb1 p ∧ Below w.heap.size w w' := by
  obtain ⟨A, c, B, d, q, h1, h2, h3, h4⟩ := h;exact ⟨A, c, B, d, h1, (h2 0).2 [] w' (Keep.refl _ _) (by simp), h4⟩
theorem NewPln.use {w w' : World} {l : Pln} {e : Ending} (h : NewPln w l e w') : ∃ Al1 cl1 As1 cs1, e = .returned (.agg (plnV Al1 cl1 As1 cs1 l)) ∧ PlnB w'.heap.size w' Al1 cl1 As1 cs1 l ∧ Below w.heap.size w w' := by
  obtain ⟨A, c, B, d, q, h1, h2, h3, h4⟩ := h;exact ⟨A, c, B, d, h1, (h2 0).2 [] w' (Keep.refl _ _) (by simp), h4⟩
theorem prtH_new {w w' : World} {e1 e2 : TypeId} {Ac Ab : Option Addr} {cc cb : Nat} {q1 q2 : List Nat} {p : Prt} {L : List BrR} (h1 : OwnS w' e1 3 Ac p.chs.length cc (chcs p.chs) q1) (h2 : OwnS w' e2 2 Ab p.bts.length cb (brcs L) q2) (hL : L.map (·.b) = p.bts) (hp : PathsN (List.range w.heap.size) w' L)
    (hq1 : ∀ x ∈ q1, w.heap.size ≤ x) (hq2 : ∀ x ∈ q2, w.heap.size ≤ x) (D : Nat) : (It.gen (newQ w w') (PrtH Ac cc Ab cb p)).holds D w' := by
  refine ⟨fun x hx => (mem_newQ.1 hx).2, fun S wx hk hS => ?_⟩;refine PrtB.of_own (S := []) (h1.keepS hk (fun g hg hm => hS g hm (mem_newQ.2 ⟨hq1 g hg, h1.lt g hg⟩))) (h2.keepS hk (fun g hg hm => hS g hm (mem_newQ.2 ⟨hq2 g hg, h2.lt g hg⟩))) hL (fun y hy => ?_);have hy' := hp y hy;by_cases h0 : 0 < y.b.path.length
  · refine ⟨hk.rd hy'.rd fun b o e hm => ?_, fun _ _ _ _ => by simp, hy'.ge, hy'.cap, hy'.nil⟩;obtain ⟨b', o', e', hb, _⟩ := hy'.rd.2 h0;rw [e] at e';injection e' with e'
    injection e' with e1 _ _
    have := hy'.off h0 b o e;simp only [List.mem_range, Nat.not_lt] at this;exact hS b hm (mem_newQ.2 ⟨this, by omega⟩)
  · exact ⟨⟨hy'.rd.1, fun h1 => absurd h1 h0⟩, fun h1 => absurd h1 h0, hy'.ge, hy'.cap, hy'.nil⟩
theorem plnH_new {w w' : World} {e1 e2 : TypeId} {Al As : Option Addr} {cl cs : Nat} {q1 q2 : List Nat} {l : Pln} (h1 : OwnS w' e1 6 Al l.calls.length cl (cacs l.calls) q1) (h2 : OwnS w' e2 3 As l.swps.length cs (swcs l.swps) q2)
    (hq1 : ∀ x ∈ q1, w.heap.size ≤ x) (hq2 : ∀ x ∈ q2, w.heap.size ≤ x) (D : Nat) : (It.gen (newQ w w') (PlnH Al cl As cs l)).holds D w' := by
  refine ⟨fun x hx => (mem_newQ.1 hx).2, fun S wx hk hS => ?_⟩;exact PlnB.of_own (h1.keepS hk (fun g hg hm => hS g hm (mem_newQ.2 ⟨hq1 g hg, h1.lt g hg⟩))) (h2.keepS hk (fun g hg hm => hS g hm (mem_newQ.2 ⟨hq2 g hg, h2.lt g hg⟩)))
end Go.Proofs.Ythmldeningpjbaa

namespace Go.Proofs.Ythmldeningpjbaa
open Go Go.RowKit Sp
theorem bKD {B : Nat} {w w' : World} (h : Below B w w') (n : Nat) : Below B w (w'.drewN n) := ⟨h.os, h.tape, h.output, h.size, h.block⟩
theorem sameInts_any (A : Option Addr) (c : Nat) (l : List Int) (B : Option Addr) (d : Nat) (w : World) (hr : Rd w 1 A l.length (ints l)) (hr2 : Rd w 1 B l.length (ints l)) (hm : l.length ≤ 9223372036854775807) :
    Calls Try.prog 37 #[.slice A l.length c, .slice B l.length d] w fun e w' => e = .returned (.bool true) ∧ Below w.heap.size w w' := by
  have HR := Lib.hid (And.intro hr hr2);clear hr hr2
  go_enter Try.func37, Try.ntmps37
  go_wp2_with fail
  go_loopw [5] (fun i wr => ∃ k : Nat, k ≤ l.length ∧ i = .int .i64 k ∧ Below w.heap.size w wr) (fun i _ => l.length - (intOf i).toNat)
  case atStart => exact ⟨0, Nat.zero_le _, rfl, Below.refl _ _⟩
  case round =>
    obtain ⟨k, hk, rfl, hb⟩ := hrel;by_cases hlt : k < l.length
    · obtain ⟨b1, o1, rfl, z1, k1⟩ := HR.out.1.2 (by omega);obtain ⟨b2, o2, rfl, z2, k2⟩ := HR.out.2.2 (by omega);obtain ⟨x, hx⟩ : ∃ x, x = l.getD k 0 := ⟨_, rfl⟩;have c1 := (hb.cell (p := ⟨b1, o1 + k, none⟩) z1).trans (k1 k _ (iG_ hlt));have c2 := (hb.cell (p := ⟨b2, o2 + k, none⟩) z2).trans (k2 k _ (iG_ hlt));rw [← hx] at c1 c2;have hxx : (x != x) = false := by simp
      have n1 : (0 : Int) ≤ (k : Int) := by omega
      have n2 : (k : Int) < (l.length : Int) := by omega
      have HB := Lib.hid hb;clear k1 k2 hx hb z1 z2;go_upto_region 6 with fail
      go_quiet (fail);go_wp2_with fail
      go_roundw;case measure => simp [intOf]; omega
      case rel => exact ⟨k + 1, by omega, by go_num, bKD HB.out _⟩
    · have HB := Lib.hid hb;clear hb;go_wp2_with fail
      go_ret;exact ⟨rfl, HB.out⟩
theorem infoKI : (Try.prog.info? 3).map (fun i => (i.zero, i.size, i.bytes)) = some (some (.int .i64 0), 1, 8) := by kernel_rfl
theorem copyIntsO_any (A : Option Addr) (c : Nat) (l : List Int) (w : World) (hr : Rd w 1 A l.length (ints l)) (hl : l.length ≤ 100000000) :
    Calls Try.prog 87 #[.slice A l.length c] w fun e w' => ∃ A1 c1 q, e = .returned (.slice A1 l.length c1) ∧ OwnA w' 3 A1 l.length c1 (ints l) q ∧ (∀ g ∈ q, w.heap.size ≤ g) ∧ Below w.heap.size w w' := by
  obtain ⟨i0, hi, hz0, hz1, hz2⟩ := info_parts infoKI;have HR := Lib.hid hr;clear hr
  go_enter Try.func87, Try.ntmps87
  go_wp2_with (at_builtin
               refine wpList_append_As rfl (.tmp 4) (.tmp 5) 33 rfl i0 _ 8 Try.underlying33 hi hz0 hz1 hz2 rfl (A := none) (n := 0) (c := 0) (B := A) (m := l.length) (d := c) (xs := []) (fp := []) (ys := ints l) (by simp [Act.eval]) (by simp [Act.eval]) (OwnA.nil _ _) HR.out (by intro u hu; obtain ⟨x, _, rfl⟩ := List.mem_map.1 hu; rfl) (by omega) (by omega) ?_;intro A' c' w' fp' h1 h2 h3;have HQ := Lib.hid (And.intro h1 (And.intro h2 h3));clear h1 h2 h3)
  go_ret;have h1 := HQ.out.1;rw [Nat.zero_add, List.nil_append] at h1;refine ⟨A', c', fp', by simp, h1, fun g hg => ?_, HQ.out.2.2.below (Nat.le_refl _) (by simp)⟩;rcases HQ.out.2.1 g hg with h | h
  · simp at h
  · omega
end Go.Proofs.Ythmldeningpjbaa
namespace Go.Proofs.Ythmldeningpjbaa
open Go Go.RowKit Sp Pt
def CpoV (ob n1 n2 cc cb : Nat) (Ac Ab : Option Addr) (s : Cl2S) : Nat → Value → Prop
  | 0, v => v = .pointer (some ⟨ob, 0, none⟩)
  | 1, v => v = .slice Ac n1 cc
  | 2, v => v = .slice s.A1 n1 s.c1
  | 3, v => v = .pointer (some ⟨ob, 1, none⟩)
  | 4, v => v = .slice Ab n2 cb
  | 5, v => v = .slice s.A2 n2 s.c2
  | 6, v => v = .pointer (some ⟨ob, 0, none⟩)
  | 8, v => v = .pointer (some ⟨ob, 1, none⟩)
  | _, _ => True
structure CpS where
  A : Option Addr
  c : Nat
def CpbV (W0 : World) (R : List Nat) (rb ob ab n cb k m ck : Nat) (Ak : Option Addr) (path : List Int) (xs : List Value) (s : CpS) : Nat → Value → Prop
  | 0, v => v = .pointer (some ⟨ob, 1, none⟩)
  | 1, v => v = .slice (some ⟨ab, 0, none⟩) n cb
  | 2, v => v = .int .i64 k
  | 3, v => v = .pointer (some ⟨ob, 1, none⟩)
  | 4, v => v = .slice (some ⟨ab, 0, none⟩) n cb
  | 5, v => v = .int .i64 k
  | 6, v => v = .pointer (some ⟨ab, k * 2, none⟩)
  | 7, v => v = .pointer (some ⟨ab, k * 2 + 1, none⟩)
  | 8, v => v = .slice Ak m ck
  | 9, v => v = .slice s.A m s.c
  | 10, v => v = .pointer (some ⟨ab, k * 2, none⟩)
  | 11, v => v = .pointer (some ⟨ab, k * 2 + 1, none⟩)
  | _, _ => True
def CpbW (W0 : World) (R : List Nat) (rb ob ab n cb k m ck : Nat) (Ak : Option Addr) (path : List Int) (xs : List Value) (s : CpS) (l : Nat → Bool) (w : World) : Prop := Keep [ab] W0 w ∧ (l 9 = true → PathN (rb :: ab :: R) w s.A s.c path) ∧ OwnS w 53 2 (some ⟨ab, 0, none⟩) n cb (if l 12 then xs.set (k * 2 + 1) (.slice s.A m s.c) else xs) [ab]
def OwnPrt (w : World) (p : Prt) (e : Ending) (w' : World) : Prop := ∃ Ac cc Ab cb q1 q2 L, e = .returned (.agg (prtV Ac cc Ab cb p)) ∧ OwnS w' 144 3 Ac p.chs.length cc (chcs p.chs) q1 ∧ OwnS w' 53 2 Ab p.bts.length cb (brcs L) q2 ∧ L.map (·.b) = p.bts ∧ PathsN (q2 ++ List.range w.heap.size) w' L ∧
  (∀ x ∈ q1, w.heap.size ≤ x) ∧ (∀ x ∈ q2, w.heap.size ≤ x) ∧ (∀ x ∈ q1, x ∉ q2) ∧ Below w.heap.size w w'
theorem OwnPrt.new {w w' : World} {p : Prt} {e : Ending} (h : OwnPrt w p e w') : NewPrt w p e w' := by
  obtain ⟨Ac, cc, Ab, cb, q1, q2, L, h1, h2, h3, h4, h5, h6, h7, h8, h9⟩ := h;exact ⟨Ac, cc, Ab, cb, newQ w w', h1, prtH_new h2 h3 h4 (h5.keep (Keep.refl [] _) (by simp) (fun x hx => .inl (by simp at hx; simp [hx]))) h6 h7, fun x hx => (mem_newQ.1 hx).1, h9⟩
theorem copyPort_own (D : Nat) (Ac : Option Addr) (cc : Nat) (Ab : Option Addr) (cb : Nat) (p : Prt) (w : World) (hp : PrtB D w Ac cc Ab cb p) (hD : D ≤ w.heap.size) (hl : p.chs.length ≤ 1000) (hs : p.bts.length ≤ 1000) (hpl : ∀ b ∈ p.bts, b.path.length ≤ 1000) :
    Calls Try.prog 31 #[.agg (prtV Ac cc Ab cb p)] w (OwnPrt w p) := by
  obtain ⟨L0, hL0, hrows, hpaths⟩ := hp.bts.rows;have hL0l : L0.length = p.bts.length := by rw [← hL0]; simp
  obtain ⟨W, hW⟩ : ∃ W, W = (w.alloc (.cells (prtV Ac cc Ab cb p) 26)).alloc (.cells #[.slice none 0 0, .slice none 0 0, .int .i64 0] 26) := ⟨_, rfl⟩;obtain ⟨ob, hob⟩ : ∃ b, b = w.heap.size := ⟨_, rfl⟩;obtain ⟨rb, hrb⟩ : ∃ b, b = w.heap.size + 1 := ⟨_, rfl⟩;have O0 : Own w.heap.size w [.blk ob (.cells (prtV Ac cc Ab cb p) 26), .blk rb (.cells #[.slice none 0 0, .slice none 0 0, .int .i64 0] 26)] W := by
    have h := ((Own.start w).alloc (.cells (prtV Ac cc Ab cb p) 26)).alloc (.cells #[.slice none 0 0, .slice none 0 0, .int .i64 0] 26);rw [hW, hob, hrb];simpa using h
  have b0 := O0.bel;have h1 := O0.heap 0 rfl;obtain ⟨n1, hn1⟩ : ∃ n, n = p.chs.length := ⟨_, rfl⟩;obtain ⟨n2, hn2⟩ : ∃ n, n = p.bts.length := ⟨_, rfl⟩;obtain ⟨h, hh⟩ : ∃ h, h = p.tugs := ⟨_, rfl⟩;have C1 := fun wx (hk : Keep [ob] W wx) => cloneChn_any Ac n1 cc (chcs p.chs) wx (by have bw := b0.trans (hk.below b0.size (by simp [hob])); rw [hn1]; exact (hp.chs.below (bw.mono hD)).rd (by have := bw.size; omega)) (by intro u hu; obtain ⟨x, _, hx⟩ := List.mem_flatMap.1 hu; simp [chc] at hx; rcases hx with rfl | rfl | rfl <;> rfl) (fun e => ⟨by have := hp.c1.2.2 e; have := hp.c1.1; omega, hp.c1.2.2 e⟩) (by omega);have C2 := fun wx (hk : Keep [ob] W wx) => cloneBrt_any Ab n2 cb (brcs L0) wx (by have bw := b0.trans (hk.below b0.size (by simp [hob])); rw [hn2]; exact (hrows.below (bw.mono hD)).rd (by have := bw.size; omega)) (brcs_one L0) (fun e => ⟨by have := hp.c2.2.2 e; have := hp.c2.1; omega, hp.c2.2.2 e⟩) (by omega);have HC := Lib.hid (And.intro C1 C2);have hx : W.heap[ob]? = some (.cells #[.slice Ac n1 cc, .slice Ab n2 cb, .int .i64 h] 26 (0, 0)) := by rw [hn1, hn2, hh]; exact h1
  have HX := Lib.hid hx;have hne : rb ≠ ob := by omega
  have zo := hL_ h1;have HO := Lib.hid (And.intro O0 (And.intro hob (And.intro hrb (And.intro hn1 (And.intro hn2 hh)))));have HL := Lib.hid (And.intro hL0 (And.intro hL0l (And.intro hpl (And.intro hpaths (And.intro hs hD)))));simp only [prtV];rw [← hn1, ← hn2, ← hh];have hs2 : n2 ≤ 1000 := by omega
  clear C1 C2 h1 hx hp b0 hl hs hL0 hL0l hpl hpaths hrows hD
  go_enter Try.func31, Try.ntmps31
  go_upto_region 1 with fail
  rw [← hW, ← hrb, ← hob];clear hW hob hrb hn1 hn2 hh;refine wRS (σ := Cl2S) (by kernel_rfl) (by kernel_rfl) (fun sg jx vx _ => CpoV ob n1 n2 cc cb Ac Ab sg jx vx) (fun sg ly wx => Cl2W ⟨144, 3, n1, chcs p.chs, 53, 2, n2, brcs L0, ob, 26⟩ 2 5 (fun s l => #[if l 7 then .slice s.A1 n1 s.c1 else .slice Ac n1 cc, if l 9 then .slice s.A2 n2 s.c2 else .slice Ab n2 cb, .int .i64 h]) W sg ly wx) ⟨none, 0, [], none, 0, []⟩ ?_ ?_ ?_
  · exact Cl2W.start HX.out
  · simp only [AllFrom, Nat.zero_add, Nat.reduceAdd];refine ⟨?_, ?_, ?_, ?_, ?_, ?_, ?_, ?_, ?_, ?_, trivial⟩
    · refine sP_ fun sg ly a wr hl hd hW hF => ?_;have et1 := hF.old 1 (by kernel_rfl);simp [Act.eval] at et1;exact ⟨hW.other 0 (by decide) (by decide) (by simp [upd]), .pointer (some ⟨ob, 0, none⟩), by go_simp, rfl⟩
    · refine sP_ fun sg ly a wr hl hd hW hF => ?_;simp [Region.binds] at hd;have et4 := hF.new 0 4 (by simp [hd]) rfl;simp [CpoV, Act.eval] at et4;have n7 := hF.notYet 1 7 hl (by kernel_rfl);have hh := hW.hob;have cL := (cOH hh 0).trans rfl;try simp only [n7, if_false, Bool.false_eq_true] at cL
      have zL := hL_ hh;exact ⟨hW.other 1 (by decide) (by decide) (by simp [upd]), .slice Ac n1 cc, by go_simp, rfl⟩
    · refine sC_ fun sg ly a wr hl hd hW hF => ?_;simp [Region.binds] at hd;have et5 := hF.new 1 5 (by simp [hd]) rfl;simp [CpoV, Act.eval] at et5;have n7 := hF.notYet 2 7 hl (by kernel_rfl);refine ⟨85, #[.slice Ac n1 cc], by go_simp, ?_⟩;refine (HC.out.1 wr hW.kp).mono ?_;rintro e w2 ⟨A', c', q, rfl, h1, h2, h3⟩;refine ⟨_, { sg with A1 := A', c1 := c', q1 := q }, rfl, hW.call1 (by decide) h1 h2 h3 (by simp [upd, n7]), rfl, ?_⟩;intro i u hi h;have i2 : i ≠ 2 := by rintro rfl; rw [hl] at hi; cases hi
      have i7 : i ≠ 7 := by rintro rfl; rw [n7] at hi; cases hi
      unfold CpoV at h ⊢;split at h <;> first | exact h | exact absurd rfl i2 | exact absurd rfl i7
    · refine sP_ fun sg ly a wr hl hd hW hF => ?_;have et1 := hF.old 1 (by kernel_rfl);simp [Act.eval] at et1;exact ⟨hW.other 3 (by decide) (by decide) (by simp [upd]), .pointer (some ⟨ob, 1, none⟩), by go_simp, rfl⟩
    · refine sP_ fun sg ly a wr hl hd hW hF => ?_;simp [Region.binds] at hd;have et7 := hF.new 3 7 (by simp [hd]) rfl;simp [CpoV, Act.eval] at et7;have n9 := hF.notYet 4 9 hl (by kernel_rfl);have hh := hW.hob;have cL := (cOH hh 1).trans rfl;try simp only [n9, if_false, Bool.false_eq_true] at cL
      have zL := hL_ hh;exact ⟨hW.other 4 (by decide) (by decide) (by simp [upd]), .slice Ab n2 cb, by go_simp, rfl⟩
    · refine sC_ fun sg ly a wr hl hd hW hF => ?_;simp [Region.binds] at hd;have et8 := hF.new 4 8 (by simp [hd]) rfl;simp [CpoV, Act.eval] at et8;have n9 := hF.notYet 5 9 hl (by kernel_rfl);refine ⟨86, #[.slice Ab n2 cb], by go_simp, ?_⟩;refine (HC.out.2 wr hW.kp).mono ?_;rintro e w2 ⟨A', c', q, rfl, h1, h2, h3⟩;refine ⟨_, { sg with A2 := A', c2 := c', q2 := q }, rfl, hW.call2 (by decide) h1 h2 h3 (by simp [upd, n9]), rfl, ?_⟩;intro i u hi h;have i5 : i ≠ 5 := by rintro rfl; rw [hl] at hi; cases hi
      have i9 : i ≠ 9 := by rintro rfl; rw [n9] at hi; cases hi
      unfold CpoV at h ⊢;split at h <;> first | exact h | exact absurd rfl i5 | exact absurd rfl i9
    · refine sP_ fun sg ly a wr hl hd hW hF => ?_;have et1 := hF.old 1 (by kernel_rfl);simp [Act.eval] at et1;exact ⟨hW.other 6 (by decide) (by decide) (by simp [upd]), .pointer (some ⟨ob, 0, none⟩), by go_simp, rfl⟩
    · refine sS_ rfl fun sg ly a wx hl hd hW hF => ?_;simp [Region.binds] at hd;have et10 := hF.new 6 10 (by simp [hd]) rfl;simp [CpoV, Act.eval] at et10;have et6 := hF.new 2 6 (by simp [hd]) rfl;simp [CpoV, Act.eval] at et6;have y2 : ly 2 = true := by simp [hd]
      have hh := hW.hob;have cL0 := (cOH hh 0).trans rfl;have fL0 := fOH hh 0;have zL := hL_ hh;exact ⟨(wx.setCell ⟨ob, 0, none⟩ (.slice sg.A1 n1 sg.c1)), sg, .skip, by go_simp, .inl rfl, hW.put 7 (by decide) (by decide) ((Keep.refl _ _).setCell (.inl (by simp)) _) ((hS_ (hh) 0 _).trans (by simp [upd, hl])), fun _ _ _ h => h⟩
    · refine sP_ fun sg ly a wr hl hd hW hF => ?_;have et1 := hF.old 1 (by kernel_rfl);simp [Act.eval] at et1;exact ⟨hW.other 8 (by decide) (by decide) (by simp [upd]), .pointer (some ⟨ob, 1, none⟩), by go_simp, rfl⟩
    · refine sS_ rfl fun sg ly a wx hl hd hW hF => ?_;simp [Region.binds] at hd;have et11 := hF.new 8 11 (by simp [hd]) rfl;simp [CpoV, Act.eval] at et11;have et9 := hF.new 5 9 (by simp [hd]) rfl;simp [CpoV, Act.eval] at et9;have y5 : ly 5 = true := by simp [hd]
      have hh := hW.hob;have cL1 := (cOH hh 1).trans rfl;have fL1 := fOH hh 1;have zL := hL_ hh;exact ⟨(wx.setCell ⟨ob, 1, none⟩ (.slice sg.A2 n2 sg.c2)), sg, .skip, by go_simp, .inl rfl, hW.put 9 (by decide) (by decide) ((Keep.refl _ _).setCell (.inl (by simp)) _) ((hS_ (hh) 1 _).trans (by simp [upd, hl])), fun _ _ _ h => h⟩
  intro s1 af w4 hWW hF;obtain ⟨ff, hf, rfl⟩ := hF.lit;obtain ⟨o1, o1'⟩ := hWW.a1 rfl;obtain ⟨o2, o2'⟩ := hWW.a2 rfl;have hob4 := hWW.hob;have hdj := hWW.dj rfl rfl;simp only [List.length_cons, List.length_nil, Nat.reduceAdd, Nat.reduceLT, decide_true, if_true] at hob4;obtain ⟨A1, c1, q1, A2, c2, q2⟩ := s1;simp only at o1 o2 o1' o2' hob4 hdj;have O4 : Own w.heap.size w [.blk ob (.cells #[.slice A1 n1 c1, .slice A2 n2 c2, .int .i64 h] 26), .blk rb (.cells #[.slice none 0 0, .slice none 0 0, .int .i64 0] 26), .own 144 3 A1 n1 c1 (chcs p.chs) q1, .own 53 2 A2 n2 c2 (brcs L0) q2] w4 := by
    have zW := HO.out.1.lt 0 rfl (x := ob) (by simp [It.fp]);have zR := HO.out.1.lt 1 rfl (x := rb) (by simp [It.fp]);have hlo := HO.out.1.lo;have a := (HO.out.1.set 0 rfl (hWW.kp) hob4);have b := a.add (i := .own 144 3 A1 n1 c1 (chcs p.chs) q1) o1 (fun x hx => by have := o1' x hx; omega) (by intro j hj x hx hm; have := o1' x hx; simp at hj; rcases hj with rfl | rfl <;> simp [It.fp] at hm <;> omega);have d := b.add (i := .own 53 2 A2 n2 c2 (brcs L0) q2) o2 (fun x hx => by have := o2' x hx; omega) (by
      intro j hj x hx hm; have := o2' x hx; simp at hj; rcases hj with rfl | rfl | rfl
      · simp [It.fp] at hm; omega
      · simp [It.fp] at hm; omega
      · exact hdj x hm hx)
    exact d
  have P4 : PathsN (rb :: q2) w4 L0 := fun y hy => PathN.of_pathB ((HL.out.2.2.2.1 y hy).below (O4.bel.mono HL.out.2.2.2.2.2)) (by have := O4.lo; have := HL.out.2.2.2.2.2; omega) (fun x hx => by have h3 := HL.out.2.2.2.2.2; rcases List.mem_cons.1 hx with e | e; (have := O4.ge 1 rfl (x := rb) (by simp [It.fp]); omega); (have := O4.ge 3 rfl (x := x) e; omega));have q0 := (cOH (O4.heap 0 rfl) 1).trans rfl;have zo4 := hL_ (O4.heap 0 rfl);have H4 := Lib.hid (And.intro O4 P4);clear hf hF hWW o1 o2 o1' o2' hob4 hdj O4 P4;simp only [List.filterMap, List.foldl, List.setIfInBounds_toArray, List.set_cons_succ, List.set_cons_zero];go_wp2_with fail
  clear q0 zo4
  go_loopg [15] (n2) (fun g i wr => ∃ (k : Nat) (L : List BrR), g + k = n2 ∧ i = .int .i64 k ∧ L.map (·.b) = p.bts ∧ PathsN (rb :: q2) wr L ∧ PathsN (rb :: (q2 ++ List.range w.heap.size)) wr (L.take k) ∧
    Own w.heap.size w [.blk ob (.cells #[.slice A1 n1 c1, .slice A2 n2 c2, .int .i64 h] 26), .blk rb (.cells #[.slice none 0 0, .slice none 0 0, .int .i64 0] 26), .own 144 3 A1 n1 c1 (chcs p.chs) q1, .own 53 2 A2 n2 c2 (brcs L) q2] wr)
  case atStart => exact ⟨0, L0, rfl, rfl, HL.out.1, H4.out.2, fun y hy => absurd hy (by simp), H4.out.1⟩
  case round =>
    obtain ⟨k, L, hk, rfl, hLb, hP, hPn, hO⟩ := hrel;have hLl : L.length = n2 := by have := congrArg List.length hLb; simp at this; rw [this]; exact HO.out.2.2.2.2.1.symm
    by_cases hlt : k < n2
    · obtain ⟨g, rfl, rfl, zg, hcell, hfz⟩ := (hO.owns 3 rfl).some_ (by omega);obtain ⟨W0, hW0⟩ : ∃ W0, W0 = wr := ⟨_, rfl⟩;subst hW0;obtain ⟨b0, b1⟩ := brcs_get (l := L) (k := k) (by omega);obtain ⟨y, hy⟩ : ∃ y, y = L[k] := ⟨_, rfl⟩;rw [← hy] at b0 b1;have hyb : y.b ∈ p.bts := by rw [← hLb, hy]; exact List.mem_map.2 ⟨_, List.getElem_mem _, rfl⟩
      have hpy : PathN [rb, g] W0 y.A y.c y.b.path := hP y (by rw [hy]; exact List.getElem_mem _);have hml := HL.out.2.2.1 _ hyb;obtain ⟨⟨d0, path⟩, Ak, ck⟩ := y;simp only at b0 b1 hpy hml;obtain ⟨m, hm⟩ : ∃ m, m = path.length := ⟨_, rfl⟩;rw [← hm] at b1 hml;have zrr := hL_ (hO.heap 1 rfl);have CI : ∀ wx, Keep [g] W0 wx → Calls Try.prog 87 #[.slice Ak m ck] wx fun e w' => ∃ A1 c1, e = .returned (.slice A1 m c1) ∧ PathN (rb :: g :: List.range w.heap.size) w' A1 c1 path ∧ Below wx.heap.size wx w' := by
        intro wx hk;rw [hm];refine (copyIntsO_any Ak ck path wx (hpy.keep hk (S' := [rb, g]) (by simp) (fun x hx => .inl hx)).rd (by omega)).mono ?_;rintro e w' ⟨A1, c1, q, rfl, h1, h2, h3⟩;exact ⟨A1, c1, rfl, PathN.of_ownA h1 (fun x hx => by have := h2 x hx; have := hk.size; have := zrr; have := hO.bel.size; simp; omega), h3⟩
      have h1 := (cOH (hO.heap 0 rfl) 1).trans rfl;have hgo : ob ≠ g := hO.ne 0 3 rfl rfl (by decide) (by simp [It.fp]) (by simp [It.fp]);have HY := Lib.hid (And.intro h1 (And.intro hgo (And.intro b1 CI)));have ho3 := hO.owns 3 rfl;have HY2 : Hid (OwnS W0 53 2 (some ⟨g, 0, none⟩) n2 c2 (brcs L) [g]) := Lib.hid ho3;have HPN := Lib.hid hPn;have HS := Lib.hid (And.intro hP (And.intro hO (And.intro hLb (And.intro hLl (And.intro hy hm)))));have hkI : (k : Int) < (n2 : Int) := by omega
      have zo := hL_ (hO.heap 0 rfl);clear hPn hO hP hLb hy hyb hpy b0 b1 CI hcell hfz h1 ho3 hm;go_upto_region 5 with fail
      refine wRS (σ := CpS) (by kernel_rfl) (by kernel_rfl) (fun sg jx vx _ => CpbV W0 (List.range w.heap.size) rb ob g n2 c2 k m ck Ak path (brcs L) sg jx vx) (fun sg ly wx => CpbW W0 (List.range w.heap.size) rb ob g n2 c2 k m ck Ak path (brcs L) sg ly wx) ⟨none, 0⟩ ?_ ?_ ?_
      · exact ⟨(Keep.refl _ _).drew, fun h => absurd h (by simp), HY2.out⟩
      · simp only [AllFrom, Nat.zero_add, Nat.reduceAdd];refine ⟨?_, ?_, ?_, ?_, ?_, ?_, ?_, ?_, ?_, ?_, ?_, ?_, ?_, trivial⟩
        · refine sP_ fun sg ly a wr hl hd hW hF => ?_;have et1 := hF.old 1 (by kernel_rfl);simp [Act.eval] at et1;exact ⟨by simpa [CpbW, upd] using hW, .pointer (some ⟨ob, 1, none⟩), by go_simp, rfl⟩
        · refine sP_ fun sg ly a wr hl hd hW hF => ?_;simp [Region.binds] at hd;have et18 := hF.new 0 18 (by simp [hd]) rfl;simp [CpbV, Act.eval] at et18;have c0 := hW.1.cell HY.out.1 (by simpa using HY.out.2.1);exact ⟨by simpa [CpbW, upd] using hW, _, by go_simp, rfl⟩
        · refine sP_ fun sg ly a wr hl hd hW hF => ?_;have et3 := hF.old 3 (by kernel_rfl);simp [Act.eval] at et3;exact ⟨by simpa [CpbW, upd] using hW, .int .i64 k, by go_simp, rfl⟩
        · refine sP_ fun sg ly a wr hl hd hW hF => ?_;have et1 := hF.old 1 (by kernel_rfl);simp [Act.eval] at et1;exact ⟨by simpa [CpbW, upd] using hW, .pointer (some ⟨ob, 1, none⟩), by go_simp, rfl⟩
        · refine sP_ fun sg ly a wr hl hd hW hF => ?_;simp [Region.binds] at hd;have et21 := hF.new 3 21 (by simp [hd]) rfl;simp [CpbV, Act.eval] at et21;have c0 := hW.1.cell HY.out.1 (by simpa using HY.out.2.1);exact ⟨by simpa [CpbW, upd] using hW, _, by go_simp, rfl⟩
        · refine sP_ fun sg ly a wr hl hd hW hF => ?_;have et3 := hF.old 3 (by kernel_rfl);simp [Act.eval] at et3;exact ⟨by simpa [CpbW, upd] using hW, .int .i64 k, by go_simp, rfl⟩
        · refine sP_ fun sg ly a wr hl hd hW hF => ?_;simp [Region.binds] at hd;have et22 := hF.new 4 22 (by simp [hd]) rfl;simp [CpbV, Act.eval] at et22;have et23 := hF.new 5 23 (by simp [hd]) rfl;simp [CpbV, Act.eval] at et23;exact ⟨by simpa [CpbW, upd] using hW, .pointer (some ⟨g, k * 2, none⟩), by go_simp, rfl⟩
        · refine sP_ fun sg ly a wr hl hd hW hF => ?_;simp [Region.binds] at hd;have et24 := hF.new 6 24 (by simp [hd]) rfl;simp [CpbV, Act.eval] at et24;exact ⟨by simpa [CpbW, upd] using hW, .pointer (some ⟨g, k * 2 + 1, none⟩), by go_simp, rfl⟩
        · refine sP_ fun sg ly a wr hl hd hW hF => ?_;simp [Region.binds] at hd;have et25 := hF.new 7 25 (by simp [hd]) rfl;simp [CpbV, Act.eval] at et25;have n12_9 := hF.notYet 8 9 hl (by kernel_rfl);have n12 := hF.notYet 9 12 n12_9 (by kernel_rfl);have ho := hW.2.2;rw [if_neg (by simp [n12])] at ho;obtain ⟨g', e', _, zz, hcell, _⟩ := ho.some_ (by omega);injection e' with e'
          injection e' with e' _ _
          subst e';have c0 := hcell _ _ HY.out.2.2.1;exact ⟨by simpa [CpbW, upd] using hW, .slice Ak m ck, by go_simp, rfl⟩
        · refine sC_ fun sg ly a wr hl hd hW hF => ?_;simp [Region.binds] at hd;have et26 := hF.new 8 26 (by simp [hd]) rfl;simp [CpbV, Act.eval] at et26;have n12 := hF.notYet 9 12 hl (by kernel_rfl);refine ⟨87, #[.slice Ak m ck], by go_simp, ?_⟩;refine (HY.out.2.2.2 wr hW.1).mono ?_;rintro e w2 ⟨A', c', rfl, hp, hb⟩;have ho := hW.2.2;rw [if_neg (by simp [n12])] at ho;refine ⟨_, ⟨A', c'⟩, rfl, ⟨hW.1.trans (Keep.of_below (S := []) hb) (by simp), fun _ => hp, by rw [if_neg (by simp [upd, n12])]; exact ho.keepS (Keep.of_below (S := []) hb) (by simp)⟩, rfl, ?_⟩;intro i u hi h;have i9 : i ≠ 9 := by rintro rfl; rw [hl] at hi; cases hi
          unfold CpbV at h ⊢;split at h <;> first | exact h | exact absurd rfl i9
        · refine sP_ fun sg ly a wr hl hd hW hF => ?_;simp [Region.binds] at hd;have et19 := hF.new 1 19 (by simp [hd]) rfl;simp [CpbV, Act.eval] at et19;have et20 := hF.new 2 20 (by simp [hd]) rfl;simp [CpbV, Act.eval] at et20;exact ⟨by simpa [CpbW, upd] using hW, .pointer (some ⟨g, k * 2, none⟩), by go_simp, rfl⟩
        · refine sP_ fun sg ly a wr hl hd hW hF => ?_;simp [Region.binds] at hd;have et28 := hF.new 10 28 (by simp [hd]) rfl;simp [CpbV, Act.eval] at et28;exact ⟨by simpa [CpbW, upd] using hW, .pointer (some ⟨g, k * 2 + 1, none⟩), by go_simp, rfl⟩
        · refine sS_ rfl fun sg ly a wr hl hd hW hF => ?_;simp [Region.binds] at hd;have et29 := hF.new 11 29 (by simp [hd]) rfl;simp [CpbV, Act.eval] at et29;have et27 := hF.new 9 27 (by simp [hd]) rfl;simp [CpbV, Act.eval] at et27;have y9 : ly 9 = true := by simp [hd]
          have ho := hW.2.2;rw [if_neg (by simp [hl])] at ho;obtain ⟨g', e', _, zz, hcell, hfz⟩ := ho.some_ (by omega);injection e' with e'
          injection e' with e' _ _
          subst e';have c0 := hcell _ _ HY.out.2.2.1;have f0 := hfz (k * 2 + 1);have hk : Keep [g] wr (wr.setCell ⟨g, k * 2 + 1, none⟩ (.slice sg.A m sg.c)) := (Keep.refl _ _).setCell (.inl (by simp)) _;exact ⟨_, sg, .skip, by go_simp, .inl rfl, ⟨hW.1.setCell (.inl (by simp)) _, fun h => (hW.2.1 y9).keep hk (by simp) (fun x hx => .inl hx), by rw [if_pos (by simp [upd])]; exact ho.set_ _ _⟩, fun _ _ _ h => h⟩
      intro sg af w5 hWW hF;obtain ⟨ff, hf, rfl⟩ := hF.lit;obtain ⟨k5, p5, o5⟩ := hWW;have p5' := p5 rfl;simp only [List.length_cons, List.length_nil, Nat.reduceAdd, Nat.reduceLT, decide_true, if_true] at o5;obtain ⟨hP, hO, hLb, hLl, hy, hm⟩ := HS.out;have e1 : (brcs L).set (k * 2 + 1) (.slice sg.A m sg.c) = brcs (L.set k ⟨(L[k]'(by omega)).b, sg.A, sg.c⟩) := by
        have e := brcs_set (L := L) (k := k) (by omega) sg.A sg.c;rw [← hy] at e;simp only at e;rw [← hy, e, hm]
      have hN := And.intro (hO.upd 3 rfl k5 (i' := .own 53 2 (some ⟨g, 0, none⟩) n2 c2 (brcs (L.set k ⟨(L[k]'(by omega)).b, sg.A, sg.c⟩)) [g]) (by show OwnS _ _ _ _ _ _ _ _; rw [← e1]; exact o5) (fun x hx => .inl hx)) (And.intro (show PathsN [rb, g] w5 (L.set k ⟨(L[k]'(by omega)).b, sg.A, sg.c⟩) from (hP.keep k5 (by simp) (fun x hx => .inl hx)).set (by have e3 : (L[k]'(by omega)).b.path = path := (by rw [← hy]); simp only [e3]; exact p5'.keep (Keep.refl [] _) (by simp) (fun x hx => .inl (by simp at hx; rcases hx with rfl | rfl <;> simp)))) (show (L.set k ⟨(L[k]'(by omega)).b, sg.A, sg.c⟩).map (·.b) = p.bts from by rw [map_set_b (by omega)]; exact hLb));have HN := Lib.hid hN;have hPn5 : PathsN (rb :: ([g] ++ List.range w.heap.size)) w5 ((L.set k ⟨(L[k]'(by omega)).b, sg.A, sg.c⟩).take (k + 1)) := by
        rw [List.take_succ_eq_append_getElem (by rw [List.length_set]; omega), List.take_set_of_le (Nat.le_refl _)];refine ((HPN.out).keep k5 (by intro x hx; rw [List.mem_singleton.1 hx]; simp) (fun x hx => .inl hx)).snoc ?_;have e3 : (L[k]'(by omega)).b.path = path := (by rw [← hy]);simp only [List.getElem_set_self, e3];exact p5'
      have HN5 := Lib.hid hPn5;clear hf hF p5 p5' o5 hP hO hLb hy hm e1 hN k5 hPn5;simp only [List.filterMap, List.foldl, List.setIfInBounds_toArray, List.set_cons_succ, List.set_cons_zero];go_wp2_with fail
      go_roundg (gk - 1);case measure => omega
      case rel => exact ⟨k + 1, _, by omega, by go_num, HN.out.2.2, HN.out.2.1, HN5.out, HN.out.1⟩
    · obtain rfl : k = n2 := by omega
      have hob4 := hO.heap 0 rfl;have hr4 := hO.heap 1 rfl;have q0 := (cOH hob4 0).trans rfl;have q1' := (cOH hob4 1).trans rfl;have q2' := (cOH hob4 2).trans rfl;have f0 := fOH hr4 0;have f1 := fOH hr4 1;have f2 := fOH hr4 2;have r0 := (cOH hr4 0).trans rfl;have r1 := (cOH hr4 1).trans rfl;have r2 := (cOH hr4 2).trans rfl;have zo4 := hL_ hob4;have zr4 := hL_ hr4;rw [List.take_of_length_le (by omega)] at hPn;have H5 := Lib.hid (And.intro hO (And.intro hPn (And.intro hLb hr4)));clear hO hP hPn hLb hob4 hr4;go_wp2_with fail
      obtain ⟨hO, hP, hLb, hr4⟩ := H5.out;have ew := hS_ (hS_ (hS_ hr4 0 (.slice A1 n1 c1)) 1 (.slice A2 k c2)) 2 (.int .i64 h);have y0 := (cOH ew 0).trans rfl;have y1 := (cOH ew 1).trans rfl;have y2 := (cOH ew 2).trans rfl;obtain ⟨-, -, -, hn1, hn2, hh⟩ := HO.out;have kr : Keep [rb] wr (((wr.setCell ⟨rb, 0, none⟩ (.slice A1 n1 c1)).setCell ⟨rb, 1, none⟩ (.slice A2 k c2)).setCell ⟨rb, 2, none⟩ (.int .i64 h)) := (((Keep.refl _ _).setCell (.inl (by simp)) _).setCell (.inl (by simp)) _).setCell (.inl (by simp)) _;have hset := hO.set 1 rfl kr ew;refine bodyPost_ret (v := .agg #[.slice A1 n1 c1, .slice A2 k c2, .int .i64 h]) (by simp [results, Try.results31, go_sem, y0, y1, y2]) rfl ?_;have hlo := HO.out.1.lo;have hD1 : w.heap.size ≤ rb := hO.ge 1 rfl (by simp [It.fp]);exact ⟨A1, c1, A2, c2, q1, q2, L, by first | rfl | (simp only [prtV]; rw [← hn1, ← hn2, ← hh]), by rw [← hn1]; exact hset.owns 2 rfl, by rw [← hn2]; exact hset.owns 3 rfl, hLb, hP.keep kr (fun x hx => .inl (by rw [List.mem_singleton.1 hx]; simp)) (fun x hx => .inl (by simp only [List.mem_cons]; exact .inr hx)), fun x hx => hO.ge 2 rfl (x := x) hx, fun x hx => hO.ge 3 rfl (x := x) hx, fun x hx hm => hO.dis 2 3 _ _ rfl rfl (by decide) x (by simpa [It.fp] using hx) (by simpa [It.fp] using hm), hset.bel⟩
theorem copyPort_any (D : Nat) (Ac : Option Addr) (cc : Nat) (Ab : Option Addr) (cb : Nat) (p : Prt) (w : World) (hp : PrtB D w Ac cc Ab cb p) (hD : D ≤ w.heap.size) (hl : p.chs.length ≤ 1000) (hs : p.bts.length ≤ 1000) (hpl : ∀ b ∈ p.bts, b.path.length ≤ 1000) :
    Calls Try.prog 31 #[.agg (prtV Ac cc Ab cb p)] w (NewPrt w p) := (copyPort_own D Ac cc Ab cb p w hp hD hl hs hpl).mono fun _ _ h => h.new
def CppV (ob n1 n2 cl cs : Nat) (Al As : Option Addr) (s : Cl2S) : Nat → Value → Prop
  | 0, v => v = .pointer (some ⟨ob, 1, none⟩)
  | 1, v => v = .slice Al n1 cl
  | 2, v => v = .slice s.A1 n1 s.c1
  | 3, v => v = .pointer (some ⟨ob, 2, none⟩)
  | 4, v => v = .slice As n2 cs
  | 5, v => v = .slice s.A2 n2 s.c2
  | 6, v => v = .pointer (some ⟨ob, 1, none⟩)
  | 8, v => v = .pointer (some ⟨ob, 2, none⟩)
  | _, _ => True
theorem copyPlan_any (D : Nat) (Al : Option Addr) (cl : Nat) (As : Option Addr) (cs : Nat) (l : Pln) (w : World) (hp : PlnB D w Al cl As cs l) (hD : D ≤ w.heap.size) (hl : l.calls.length ≤ 100000000) (hs : l.swps.length ≤ 100000000) :
    Calls Try.prog 33 #[.agg (plnV Al cl As cs l)] w (NewPln w l) := by
  obtain ⟨W, hW⟩ : ∃ W, W = (w.alloc (.cells (plnV Al cl As cs l) 31)).alloc (.cells #[.int .i64 0, .slice none 0 0, .slice none 0 0] 31) := ⟨_, rfl⟩;obtain ⟨ob, hob⟩ : ∃ b, b = w.heap.size := ⟨_, rfl⟩;obtain ⟨rb, hrb⟩ : ∃ b, b = w.heap.size + 1 := ⟨_, rfl⟩;have b0 : Below w.heap.size w W := by rw [hW]; exact ((Below.refl _ _).alloc (Nat.le_refl _) _).alloc (by simp) _
  have h1 : W.heap[ob]? = some (.cells (plnV Al cl As cs l) 31 (0, 0)) := by rw [hW, hob]; exact hA_ (heap_alloc_new _ _) _
  have h2 : W.heap[rb]? = some (.cells #[.int .i64 0, .slice none 0 0, .slice none 0 0] 31 (0, 0)) := by
    rw [hW, hrb];have := heap_alloc_new (w.alloc (.cells (plnV Al cl As cs l) 31)) (.cells #[.int .i64 0, .slice none 0 0, .slice none 0 0] 31)
    rwa [World.size_alloc] at this
  have hp1 := hp.below (b0.mono hD);obtain ⟨n1, hn1⟩ : ∃ n, n = l.calls.length := ⟨_, rfl⟩;obtain ⟨n2, hn2⟩ : ∃ n, n = l.swps.length := ⟨_, rfl⟩;obtain ⟨h, hh⟩ : ∃ h, h = l.hours := ⟨_, rfl⟩;have hDW : D ≤ W.heap.size := Nat.le_trans hD b0.size;have C1 := fun wx (hk : Keep [ob] W wx) => cloneCal_any Al n1 cl (cacs l.calls) wx (by have bw := b0.trans (hk.below b0.size (by simp [hob])); rw [hn1]; exact (hp.calls.below (bw.mono hD)).rd (by have := bw.size; omega)) (by intro u hu; obtain ⟨x, _, hx⟩ := List.mem_flatMap.1 hu; simp [cac] at hx; rcases hx with rfl | rfl | rfl | rfl | rfl | rfl <;> rfl) (fun e => ⟨by have := hp.c1.2.2 e; have := hp.c1.1; omega, hp.c1.2.2 e⟩) (by omega);have C2 := fun wx (hk : Keep [ob] W wx) => cloneSwp_any As n2 cs (swcs l.swps) wx (by have bw := b0.trans (hk.below b0.size (by simp [hob])); rw [hn2]; exact (hp.swps.below (bw.mono hD)).rd (by have := bw.size; omega)) (by intro u hu; obtain ⟨x, _, hx⟩ := List.mem_flatMap.1 hu; simp [swc] at hx; rcases hx with rfl | rfl | rfl <;> rfl) (fun e => ⟨by have := hp.c2.2.2 e; have := hp.c2.1; omega, hp.c2.2.2 e⟩) (by omega);have HC := Lib.hid (And.intro C1 C2);have hx : W.heap[ob]? = some (.cells #[.int .i64 h, .slice Al n1 cl, .slice As n2 cs] 31 (0, 0)) := by rw [hn1, hn2, hh]; exact h1
  have HX := Lib.hid hx;have hne : rb ≠ ob := by omega
  have zo := hL_ h1;have zr := hL_ h2;have HO := Lib.hid (And.intro h2 (And.intro b0 (And.intro hob (And.intro hrb (And.intro hn1 (And.intro hn2 hh))))));simp only [plnV];rw [← hn1, ← hn2, ← hh];clear C1 C2 h1 h2 hx hp1 hp hDW b0 hl hs
  go_enter Try.func33, Try.ntmps33
  go_upto_region 1 with fail
  rw [← hW, ← hrb, ← hob];clear hW hob hrb hn1 hn2 hh;refine wRS (σ := Cl2S) (by kernel_rfl) (by kernel_rfl) (fun sg jx vx _ => CppV ob n1 n2 cl cs Al As sg jx vx) (fun sg ly wx => Cl2W ⟨55, 6, n1, cacs l.calls, 126, 3, n2, swcs l.swps, ob, 31⟩ 2 5 (fun s l => #[.int .i64 h, if l 7 then .slice s.A1 n1 s.c1 else .slice Al n1 cl, if l 9 then .slice s.A2 n2 s.c2 else .slice As n2 cs]) W sg ly wx) ⟨none, 0, [], none, 0, []⟩ ?_ ?_ ?_
  · exact Cl2W.start HX.out
  · simp only [AllFrom, Nat.zero_add, Nat.reduceAdd];refine ⟨?_, ?_, ?_, ?_, ?_, ?_, ?_, ?_, ?_, ?_, trivial⟩
    · refine sP_ fun sg ly a wr hl hd hW hF => ?_;have et1 := hF.old 1 (by kernel_rfl);simp [Act.eval] at et1;exact ⟨hW.other 0 (by decide) (by decide) (by simp [upd]), .pointer (some ⟨ob, 1, none⟩), by go_simp, rfl⟩
    · refine sP_ fun sg ly a wr hl hd hW hF => ?_;simp [Region.binds] at hd;have et3 := hF.new 0 3 (by simp [hd]) rfl;simp [CppV, Act.eval] at et3;have n7 := hF.notYet 1 7 hl (by kernel_rfl);have hh := hW.hob;have cL := (cOH hh 1).trans rfl;try simp only [n7, if_false, Bool.false_eq_true] at cL
      have zL := hL_ hh;exact ⟨hW.other 1 (by decide) (by decide) (by simp [upd]), .slice Al n1 cl, by go_simp, rfl⟩
    · refine sC_ fun sg ly a wr hl hd hW hF => ?_;simp [Region.binds] at hd;have et4 := hF.new 1 4 (by simp [hd]) rfl;simp [CppV, Act.eval] at et4;have n7 := hF.notYet 2 7 hl (by kernel_rfl);refine ⟨89, #[.slice Al n1 cl], by go_simp, ?_⟩;refine (HC.out.1 wr hW.kp).mono ?_;rintro e w2 ⟨A', c', q, rfl, h1, h2, h3⟩;refine ⟨_, { sg with A1 := A', c1 := c', q1 := q }, rfl, hW.call1 (by decide) h1 h2 h3 (by simp [upd, n7]), rfl, ?_⟩;intro i u hi h;have i2 : i ≠ 2 := by rintro rfl; rw [hl] at hi; cases hi
      have i7 : i ≠ 7 := by rintro rfl; rw [n7] at hi; cases hi
      unfold CppV at h ⊢;split at h <;> first | exact h | exact absurd rfl i2 | exact absurd rfl i7
    · refine sP_ fun sg ly a wr hl hd hW hF => ?_;have et1 := hF.old 1 (by kernel_rfl);simp [Act.eval] at et1;exact ⟨hW.other 3 (by decide) (by decide) (by simp [upd]), .pointer (some ⟨ob, 2, none⟩), by go_simp, rfl⟩
    · refine sP_ fun sg ly a wr hl hd hW hF => ?_;simp [Region.binds] at hd;have et6 := hF.new 3 6 (by simp [hd]) rfl;simp [CppV, Act.eval] at et6;have n9 := hF.notYet 4 9 hl (by kernel_rfl);have hh := hW.hob;have cL := (cOH hh 2).trans rfl;try simp only [n9, if_false, Bool.false_eq_true] at cL
      have zL := hL_ hh;exact ⟨hW.other 4 (by decide) (by decide) (by simp [upd]), .slice As n2 cs, by go_simp, rfl⟩
    · refine sC_ fun sg ly a wr hl hd hW hF => ?_;simp [Region.binds] at hd;have et7 := hF.new 4 7 (by simp [hd]) rfl;simp [CppV, Act.eval] at et7;have n9 := hF.notYet 5 9 hl (by kernel_rfl);refine ⟨90, #[.slice As n2 cs], by go_simp, ?_⟩;refine (HC.out.2 wr hW.kp).mono ?_;rintro e w2 ⟨A', c', q, rfl, h1, h2, h3⟩;refine ⟨_, { sg with A2 := A', c2 := c', q2 := q }, rfl, hW.call2 (by decide) h1 h2 h3 (by simp [upd, n9]), rfl, ?_⟩;intro i u hi h;have i5 : i ≠ 5 := by rintro rfl; rw [hl] at hi; cases hi
      have i9 : i ≠ 9 := by rintro rfl; rw [n9] at hi; cases hi
      unfold CppV at h ⊢;split at h <;> first | exact h | exact absurd rfl i5 | exact absurd rfl i9
    · refine sP_ fun sg ly a wr hl hd hW hF => ?_;have et1 := hF.old 1 (by kernel_rfl);simp [Act.eval] at et1;exact ⟨hW.other 6 (by decide) (by decide) (by simp [upd]), .pointer (some ⟨ob, 1, none⟩), by go_simp, rfl⟩
    · refine sS_ rfl fun sg ly a wx hl hd hW hF => ?_;simp [Region.binds] at hd;have et9 := hF.new 6 9 (by simp [hd]) rfl;simp [CppV, Act.eval] at et9;have et5 := hF.new 2 5 (by simp [hd]) rfl;simp [CppV, Act.eval] at et5;have y2 : ly 2 = true := by simp [hd]
      have hh := hW.hob;have cL1 := (cOH hh 1).trans rfl;have fL1 := fOH hh 1;have zL := hL_ hh;exact ⟨(wx.setCell ⟨ob, 1, none⟩ (.slice sg.A1 n1 sg.c1)), sg, .skip, by go_simp, .inl rfl, hW.put 7 (by decide) (by decide) ((Keep.refl _ _).setCell (.inl (by simp)) _) ((hS_ (hh) 1 _).trans (by simp [upd, hl])), fun _ _ _ h => h⟩
    · refine sP_ fun sg ly a wr hl hd hW hF => ?_;have et1 := hF.old 1 (by kernel_rfl);simp [Act.eval] at et1;exact ⟨hW.other 8 (by decide) (by decide) (by simp [upd]), .pointer (some ⟨ob, 2, none⟩), by go_simp, rfl⟩
    · refine sS_ rfl fun sg ly a wx hl hd hW hF => ?_;simp [Region.binds] at hd;have et10 := hF.new 8 10 (by simp [hd]) rfl;simp [CppV, Act.eval] at et10;have et8 := hF.new 5 8 (by simp [hd]) rfl;simp [CppV, Act.eval] at et8;have y5 : ly 5 = true := by simp [hd]
      have hh := hW.hob;have cL2 := (cOH hh 2).trans rfl;have fL2 := fOH hh 2;have zL := hL_ hh;exact ⟨(wx.setCell ⟨ob, 2, none⟩ (.slice sg.A2 n2 sg.c2)), sg, .skip, by go_simp, .inl rfl, hW.put 9 (by decide) (by decide) ((Keep.refl _ _).setCell (.inl (by simp)) _) ((hS_ (hh) 2 _).trans (by simp [upd, hl])), fun _ _ _ h => h⟩
  intro sg af w4 hWW hF;obtain ⟨ff, hf, rfl⟩ := hF.lit;obtain ⟨o1, o1'⟩ := hWW.a1 rfl;obtain ⟨o2, o2'⟩ := hWW.a2 rfl;have hob4 := hWW.hob;have hdj := hWW.dj rfl rfl;simp only [List.length_cons, List.length_nil, Nat.reduceAdd, Nat.reduceLT, decide_true, if_true] at hob4;have kp := hWW.kp;have hr4 := (kp.block _ zr (by simpa using hne)).trans HO.out.1;have q0 := (cOH hob4 0).trans rfl;have q1 := (cOH hob4 1).trans rfl;have q2 := (cOH hob4 2).trans rfl;have f0 := fOH hr4 0;have f1 := fOH hr4 1;have f2 := fOH hr4 2;have r0 := (cOH hr4 0).trans rfl;have r1 := (cOH hr4 1).trans rfl;have r2 := (cOH hr4 2).trans rfl;have zo4 := hL_ hob4;have zr4 := hL_ hr4;have H4 := Lib.hid (And.intro o1 (And.intro o1' (And.intro o2 (And.intro o2' (And.intro hdj (And.intro kp hr4))))));clear hf hF hWW o1 o2 o1' o2' hob4 kp hr4 hdj;simp only [List.filterMap, List.foldl, List.setIfInBounds_toArray, List.set_cons_succ, List.set_cons_zero];go_wp2_with fail
  obtain ⟨o1, o1', o2, o2', hdj, kp, hr4⟩ := H4.out;have ew := hS_ (hS_ (hS_ hr4 0 (.int .i64 h)) 1 (.slice sg.A1 n1 sg.c1)) 2 (.slice sg.A2 n2 sg.c2);have y0 := (cOH ew 0).trans rfl;have y1 := (cOH ew 1).trans rfl;have y2 := (cOH ew 2).trans rfl;obtain ⟨-, b0, hob, hrb, hn1, hn2, hh⟩ := HO.out;have kr : Keep [rb] w4 (((w4.setCell ⟨rb, 0, none⟩ (.int .i64 h)).setCell ⟨rb, 1, none⟩ (.slice sg.A1 n1 sg.c1)).setCell ⟨rb, 2, none⟩ (.slice sg.A2 n2 sg.c2)) := (((Keep.refl _ _).setCell (.inl (by simp)) _).setCell (.inl (by simp)) _).setCell (.inl (by simp)) _;refine bodyPost_ret (v := .agg (plnV sg.A1 sg.c1 sg.A2 sg.c2 l)) (by simp only [plnV]; rw [← hn1, ← hn2, ← hh]; simp [results, Try.results33, go_sem, y0, y1, y2]) rfl ?_;refine ⟨sg.A1, sg.c1, sg.A2, sg.c2, newQ w (((w4.setCell ⟨rb, 0, none⟩ (.int .i64 h)).setCell ⟨rb, 1, none⟩ (.slice sg.A1 n1 sg.c1)).setCell ⟨rb, 2, none⟩ (.slice sg.A2 n2 sg.c2)), by first | rfl | (simp only [plnV]; rw [← hn1, ← hn2, ← hh]), plnH_new (e1 := 55) (e2 := 126) (q1 := sg.q1) (q2 := sg.q2) ?_ ?_ ?_ ?_, fun x hx => (mem_newQ.1 hx).1, ?_⟩
  · rw [← hn1]; exact o1.keepS kr (fun g hg => by have := o1' g hg; simp; omega)
  · rw [← hn2]; exact o2.keepS kr (fun g hg => by have := o2' g hg; simp; omega)
  · intro x hx; have := o1' x hx; have := b0.size; omega
  · intro x hx; have := o2' x hx; have := b0.size; omega
  · exact (b0.trans (kp.below b0.size (by simp; omega))).trans (kr.below (by have := b0.size; have := kp.size; omega) (by simp; omega))
end Go.Proofs.Ythmldeningpjbaa
namespace Go.Proofs.Ythmldeningpjbaa
open Go Go.RowKit Sp Pt
section
variable {D : Nat} {W0 wr w5 : World} {L : List It}
theorem Own.app3 (h : Own D W0 L wr) (kb ko : Nat) {ob : Nat} {old : Array Value} {t e : TypeId} {sz : Nat} {A : Option Addr} {n c : Nat} {xs : List Value} {q : List Nat}
    (hb : L[kb]? = some (.blk ob (.cells old t (0, 0)))) (ho : L[ko]? = some (.own e sz A n c xs q)) (hne : kb ≠ ko) {wx : World} (hx : Below wr.heap.size wr wx) {g n' c' : Nat} {xs' : List Value}
    (h1 : OwnS w5 e sz (some ⟨g, 0, none⟩) n' c' xs' [g]) (h2 : g ∈ q ∨ wx.heap.size = g) (h4 : Keep q wx w5) (j : Nat) (v : Value) :
    w5.heap[ob]? = some (.cells old t (0, 0)) ∧ Own D W0 ((L.set ko (.own e sz (some ⟨g, 0, none⟩) n' c' xs' [g])).set kb (.blk ob (.cells (old.setIfInBounds j v) t (0, 0)))) (w5.setCell ⟨ob, j, none⟩ v) := by
  have o1 := (h.below hx).upd ko ho h4 (i' := .own e sz (some ⟨g, 0, none⟩) n' c' xs' [g]) h1 (fun x hx => by
    rw [List.mem_singleton.1 hx];rcases h2 with e | e
    · exact .inl e
    · exact .inr (by omega))
  have hb' : (L.set ko (.own e sz (some ⟨g, 0, none⟩) n' c' xs' [g]))[kb]? = some (.blk ob (.cells old t (0, 0))) := by
    rw [List.getElem?_set, if_neg (fun q => hne q.symm)]; exact hb
  have hh := o1.heap kb hb';exact ⟨hh, o1.set kb hb' ((Keep.refl _ _).setCell (.inl (by simp)) _) (hS_ hh j v)⟩
theorem cacs_snoc {l : List Cal} {k : Nat} (hk : k < l.length) : cacs (l.take k) ++ cac l[k] = cacs (l.take (k + 1)) := by
  rw [List.take_succ_eq_append_getElem hk]; exact (flat_snoc cac _ _).symm
theorem swcs_snoc {l : List Swp} {k : Nat} (hk : k < l.length) : swcs (l.take k) ++ swc l[k] = swcs (l.take (k + 1)) := by
  rw [List.take_succ_eq_append_getElem hk]; exact (flat_snoc swc _ _).symm
theorem chcs_snoc {l : List Chn} {k : Nat} (hk : k < l.length) : chcs (l.take k) ++ chc l[k] = chcs (l.take (k + 1)) := by
  rw [List.take_succ_eq_append_getElem hk]; exact (flat_snoc chc _ _).symm
end
end Go.Proofs.Ythmldeningpjbaa
namespace Go.Proofs.Ythmldeningpjbaa
open Go Go.RowKit Sp Pt
structure ApcC where
  ob : Nat
  e : TypeId
  sz : Nat
  k : Nat
  A : Option Addr
  c : Nat
  xs : List Value
  q : List Nat
  path : List Int
  ti : TypeId
  ys : Option Addr → Nat → List Value
  old : Array Value
  new : Option Addr → Nat → Array Value
  t : TypeId
structure ApcS where
  A1 : Option Addr
  c1 : Nat
  q1 : List Nat
  bs : Nat
  A : Option Addr
  c : Nat
  g : Nat
structure ApcOk (C : ApcC) (W0 : World) : Prop where
  own : OwnS W0 C.e C.sz C.A C.k C.c C.xs C.q
  hob : W0.heap[C.ob]? = some (.cells C.old C.t (0, 0))
  obq : C.ob ∉ C.q
structure ApcW (C : ApcC) (oC oB oA oS : Nat) (W0 : World) (s : ApcS) (l : Nat → Bool) (w : World) : Prop where
  kp : Keep (C.ob :: C.q) W0 w
  pth : l oC = true → OwnA w C.ti s.A1 C.path.length s.c1 (ints C.path) s.q1 ∧ ∀ x ∈ s.q1, W0.heap.size ≤ x
  own0 : l oA = false → OwnS w C.e C.sz C.A C.k C.c C.xs C.q
  own1 : l oA = true → OwnS w C.e C.sz s.A (C.k + 1) s.c (C.xs ++ C.ys s.A1 s.c1) [s.g] ∧ (s.g ∈ C.q ∨ W0.heap.size ≤ s.g) ∧ (l oC = true → s.g ∉ s.q1)
  hob : w.heap[C.ob]? = some (.cells (if l oS then C.new s.A s.c else C.old) C.t (0, 0))
  hbs : l oB = true → W0.heap.size ≤ s.bs ∧ w.heap[s.bs]? = some (.cells (C.ys s.A1 s.c1).toArray C.e (0, 0))
section
variable {C : ApcC} {oC oB oA oS : Nat} {W0 w w' : World} {s : ApcS} {l : Nat → Bool}
theorem ApcOk.start (O : ApcOk C W0) : ApcW C oC oB oA oS W0 s (fun _ => false) W0.drew :=
  ⟨(Keep.refl _ _).drew, (fun h => by cases h), fun _ => O.own, (fun h => by cases h), by rw [if_neg (by simp)]; exact O.hob, (fun h => by cases h)⟩
theorem ApcW.other (H : ApcW C oC oB oA oS W0 s l w) (i : Nat) (h0 : i ≠ oC) (h1 : i ≠ oB) (h2 : i ≠ oA) (h3 : i ≠ oS) : ApcW C oC oB oA oS W0 s (upd l i) w := by
  refine ⟨H.kp, ?_, ?_, ?_, ?_, ?_⟩
  · rw [upd_ne h0]; exact H.pth
  · rw [upd_ne h2]; exact H.own0
  · rw [upd_ne h2, upd_ne h0]; exact H.own1
  · rw [upd_ne h3]; exact H.hob
  · rw [upd_ne h1]; exact H.hbs
theorem ApcW.call (H : ApcW C oC oB oA oS W0 s l w) (O : ApcOk C W0) (hn : oC ≠ oB ∧ oC ≠ oA ∧ oC ≠ oS) (hB : l oB = false) (hA : l oA = false) {A : Option Addr} {c : Nat} {q : List Nat} (h1 : OwnA w' C.ti A C.path.length c (ints C.path) q) (h2 : ∀ g ∈ q, w.heap.size ≤ g) (h3 : Below w.heap.size w w') :
    ApcW C oC oB oA oS W0 { s with A1 := A, c1 := c, q1 := q } (upd l oC) w' := by
  have hk : Keep [] w w' := Keep.of_below h3;refine ⟨H.kp.trans hk (by simp), fun _ => ⟨h1, fun g hg => Nat.le_trans H.kp.size (h2 g hg)⟩, ?_, ?_, ?_, ?_⟩
  · rw [upd_ne hn.2.1]; exact fun e => (H.own0 e).keepS hk (by simp)
  · rw [upd_ne hn.2.1, hA]; exact fun e => by cases e
  · rw [upd_ne hn.2.2]; exact (hk.block _ (hL_ H.hob) (by simp)).trans H.hob
  · rw [upd_ne hn.1, hB]; exact fun e => by cases e
theorem ApcW.build (H : ApcW C oC oB oA oS W0 s l w) (hn : oC ≠ oB ∧ oB ≠ oA ∧ oB ≠ oS) (hA : l oA = false) : ApcW C oC oB oA oS W0 { s with bs := w.heap.size } (upd l oB) (w.alloc (.cells (C.ys s.A1 s.c1).toArray C.e)) := by
  refine ⟨H.kp.alloc _, ?_, ?_, ?_, ?_, fun _ => ⟨H.kp.size, heap_alloc_new _ _⟩⟩
  · rw [upd_ne hn.1.symm]; exact fun e => ⟨(H.pth e).1.alloc _, (H.pth e).2⟩
  · rw [upd_ne hn.2.1]; exact fun e => (H.own0 e).alloc _
  · rw [upd_ne hn.2.1, hA]; exact fun e => by cases e
  · rw [upd_ne hn.2.2]; exact hA_ H.hob _
theorem ApcW.app (H : ApcW C oC oB oA oS W0 s l w) (O : ApcOk C W0) (hn : oC ≠ oA ∧ oB ≠ oA ∧ oA ≠ oS) (h8 : l oB = true) (h9 : l oA = false) (h11 : l oS = false) {g c' : Nat} (o1 : OwnS w' C.e C.sz (some ⟨g, 0, none⟩) (C.k + 1) c' (C.xs ++ C.ys s.A1 s.c1) [g]) (o2 : g ∈ C.q ∨ w.heap.size = g) (o3 : Keep C.q w w') :
    ApcW C oC oB oA oS W0 { s with A := some ⟨g, 0, none⟩, c := c', g := g } (upd l oA) w' := by
  have hh := H.hob;rw [h11, if_neg (by simp)] at hh;have hq : ∀ x ∈ C.q, x < W0.heap.size := fun x hx => O.own.lt x hx;refine ⟨H.kp.trans o3 (fun x hx => .inl (by simp [hx])), ?_, ?_, ?_, ?_, ?_⟩
  · rw [upd_ne hn.1.symm];exact fun e => ⟨(H.pth e).1.keepS o3 (fun x hx hm => by have := (H.pth e).2 x hx; have := hq x hm; omega), (H.pth e).2⟩
  · rw [upd_eq]; exact fun e => by cases e
  · rw [upd_ne hn.1.symm];refine fun _ => ⟨o1, ?_, fun e hm => ?_⟩
    · rcases o2 with e | e
      · exact .inl e
      · exact .inr (by have := H.kp.size; simp only; omega)
    · have h1 := (H.pth e).2 g hm;have h2 := (H.pth e).1.lt g hm;rcases o2 with e | e
      · have := hq g e; omega
      · omega
  · rw [upd_ne hn.2.2, h11, if_neg (by simp)]; exact (o3.block _ (hL_ hh) O.obq).trans hh
  · rw [upd_ne hn.2.1.symm];exact fun e => ⟨(H.hbs e).1, (o3.block _ (hL_ (H.hbs e).2) (fun hm => by have := (H.hbs e).1; have := hq _ hm; omega)).trans (H.hbs e).2⟩
theorem ApcW.store (H : ApcW C oC oB oA oS W0 s l w) (O : ApcOk C W0) (hn : oC ≠ oS ∧ oB ≠ oS ∧ oA ≠ oS) (j : Nat) (hnew : ∀ A c, C.new A c = C.old.setIfInBounds j (.slice A (C.k + 1) c)) (h9 : l oA = true) (h11 : l oS = false) :
    ApcW C oC oB oA oS W0 s (upd l oS) (w.setCell ⟨C.ob, j, none⟩ (.slice s.A (C.k + 1) s.c)) := by
  have hh := H.hob;rw [h11, if_neg (by simp)] at hh;have zo := hL_ O.hob;have K : Keep [C.ob] w (w.setCell ⟨C.ob, j, none⟩ (.slice s.A (C.k + 1) s.c)) := (Keep.refl _ _).setCell (.inl (by simp)) _;refine ⟨H.kp.setCell (.inl (by simp)) _, ?_, ?_, ?_, ?_, ?_⟩
  · rw [upd_ne hn.1.symm]; exact fun e => ⟨(H.pth e).1.keepS K (fun x hx => by have := (H.pth e).2 x hx; simp; omega), (H.pth e).2⟩
  · rw [upd_ne hn.2.2.symm, h9]; exact fun e => by cases e
  · rw [upd_ne hn.2.2.symm, upd_ne hn.1.symm];refine fun e => ⟨(H.own1 e).1.keepS K (fun g hg => ?_), (H.own1 e).2⟩;rw [List.mem_singleton.1 hg];simp only [List.mem_singleton];rintro e2;rcases (H.own1 e).2.1 with e3 | e3
    · exact O.obq (e2 ▸ e3)
    · omega
  · rw [upd_eq, if_pos rfl, hnew]; exact hS_ hh j _
  · rw [upd_ne hn.2.1.symm];exact fun e => ⟨(H.hbs e).1, (K.block _ (hL_ (H.hbs e).2) (by have := (H.hbs e).1; simp; omega)).trans (H.hbs e).2⟩
theorem ApcW.at_append {P : Program} {o : Oper} {a : Act} {K : Act → World → Prop} {Q : Exit → Act → World → Prop} (H : ApcW C oC oB oA oS W0 s l w) (O : ApcOk C W0) (x y : Operand) (t : TypeId)
    (ho : o.op = .call { callee := .builtin .append, args := #[x, y], argTypes := #[t, t] })
    (i : TypeInfo) (z : Value) (bytes : Nat) (ht : P.underlying t = some (.slice C.e)) (hi : P.info? C.e = some i) (hz : i.zero = some z)
    (hsize : i.size = C.sz) (hs0 : 0 < C.sz) (hby : i.bytes = bytes) (hzs : z.cells.size = C.sz) (hs : a.eval x = .slice C.A C.k C.c) (hx : a.eval y = .slice (some ⟨s.bs, 0, none⟩) 1 1)
    (hys : (C.ys s.A1 s.c1).length = C.sz) (h1 : ∀ u ∈ C.ys s.A1 s.c1, u.oneCell' = true) (hk : C.k + 1 ≤ 1000000000000) (hbytes : bytes ≤ 100) (hn : oC ≠ oA ∧ oB ≠ oA ∧ oA ≠ oS) (h8 : l oB = true) (h9 : l oA = false) (h11 : l oS = false)
    (h : ∀ g c' w', ApcW C oC oB oA oS W0 { s with A := some ⟨g, 0, none⟩, c := c', g := g } (upd l oA) w' → K (a.put o.dst (.slice (some ⟨g, 0, none⟩) (C.k + 1) c')) w') : o.wp P a w K Q := by
  have hbs := H.hbs h8;refine wp_append_S x y t ho i z bytes ht hi hz hsize hs0 hby hzs hs ⟨s.bs, 0, none⟩ hx (C.ys s.A1 s.c1) (H.own0 h9) hys (fun j v hj => by rw [show (⟨s.bs, 0, none⟩ : Addr).add j = ⟨s.bs, j, none⟩ from by simp [Addr.add]; omega]; exact (cOH hbs.2 j).trans (by simpa using hj)) h1 hk hbytes ?_;intro g c' w' o1 o2 o3 o4;exact h g c' w' (H.app O hn h8 h9 h11 o1 o2 o4)
end
end Go.Proofs.Ythmldeningpjbaa
