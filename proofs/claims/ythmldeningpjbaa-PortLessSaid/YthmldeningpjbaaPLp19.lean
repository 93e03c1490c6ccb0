import Derived.Test.YthmldeningpjbaaPLp18
import Derived.Test.YthmldeningpjbaaPLp5
import Derived.Test.YthmldeningpjbaaPLp16
import Derived.Deep.DeepCutAuto
import Derived.Test.YthmldeningpjbaaPLp12
import Derived.Test.YthmldeningpjbaaPLp15
import Derived.Test.YthmldeningpjbaaPLp17
import Derived.Test.YthmldeningpjbaaPLp0
set_option linter.unusedVariables false
set_option linter.unusedSimpArgs false
set_option maxRecDepth 100000
set_option maxHeartbeats 40000000
namespace Go.Proofs.Ythmldeningpjbaa
open Go Go.RowKit Sp Pt
def CpoV (ob n1 n2 cc cb : Nat) (Ac Ab : Option Addr) (s : Cl2S) : Nat → Value → Prop
  | 0, v => v = .pointer (some ⟨ob, 0, none⟩)
  | 1, v => v = .slice Ac n1 cc
  | 2, v => v = .slice s.A1 n1 s.c1
  | 3, v => v = .pointer (some ⟨ob, 1, none⟩)
  | 4, v => v = .slice Ab n2 cb
  | 5, v => v = .slice s.A2 n2 s.c2
  | 6, v => v = .pointer (some ⟨ob, 0, none⟩)
  | 8, v => v = .pointer (some ⟨ob, 1, none⟩)
  | _, _ => True
structure CpS where
  A : Option Addr
  c : Nat
def CpbV (W0 : World) (R : List Nat) (rb ob ab n cb k m ck : Nat) (Ak : Option Addr) (path : List Int) (xs : List Value) (s : CpS) : Nat → Value → Prop
  | 0, v => v = .pointer (some ⟨ob, 1, none⟩)
  | 1, v => v = .slice (some ⟨ab, 0, none⟩) n cb
  | 2, v => v = .int .i64 k
  | 3, v => v = .pointer (some ⟨ob, 1, none⟩)
  | 4, v => v = .slice (some ⟨ab, 0, none⟩) n cb
  | 5, v => v = .int .i64 k
  | 6, v => v = .pointer (some ⟨ab, k * 2, none⟩)
  | 7, v => v = .pointer (some ⟨ab, k * 2 + 1, none⟩)
  | 8, v => v = .slice Ak m ck
  | 9, v => v = .slice s.A m s.c
  | 10, v => v = .pointer (some ⟨ab, k * 2, none⟩)
  | 11, v => v = .pointer (some ⟨ab, k * 2 + 1, none⟩)
  | _, _ => True
def CpbW (W0 : World) (R : List Nat) (rb ob ab n cb k m ck : Nat) (Ak : Option Addr) (path : List Int) (xs : List Value) (s : CpS) (l : Nat → Bool) (w : World) : Prop := Keep [ab] W0 w ∧ (l 9 = true → PathN (rb :: ab :: R) w s.A s.c path) ∧ OwnS w 53 2 (some ⟨ab, 0, none⟩) n cb (if l 12 then xs.set (k * 2 + 1) (.slice s.A m s.c) else xs) [ab]
def OwnPrt (w : World) (p : Prt) (e : Ending) (w' : World) : Prop := ∃ Ac cc Ab cb q1 q2 L, e = .returned (.agg (prtV Ac cc Ab cb p)) ∧ OwnS w' 144 3 Ac p.chs.length cc (chcs p.chs) q1 ∧ OwnS w' 53 2 Ab p.bts.length cb (brcs L) q2 ∧ L.map (·.b) = p.bts ∧ PathsN (q2 ++ List.range w.heap.size) w' L ∧
  (∀ x ∈ q1, w.heap.size ≤ x) ∧ (∀ x ∈ q2, w.heap.size ≤ x) ∧ (∀ x ∈ q1, x ∉ q2) ∧ Below w.heap.size w w'
theorem OwnPrt.new {w w' : World} {p : Prt} {e : Ending} (h : OwnPrt w p e w') : NewPrt w p e w' := by
  obtain ⟨Ac, cc, Ab, cb, q1, q2, L, h1, h2, h3, h4, h5, h6, h7, h8, h9⟩ := h;exact ⟨Ac, cc, Ab, cb, newQ w w', h1, prtH_new h2 h3 h4 (h5.keep (Keep.refl [] _) (by simp) (fun x hx => .inl (by simp at hx; simp [hx]))) h6 h7, fun x hx => (mem_newQ.1 hx).1, h9⟩
theorem copyPort_own (D : Nat) (Ac : Option Addr) (cc : Nat) (Ab : Option Addr) (cb : Nat) (p : Prt) (w : World) (hp : PrtB D w Ac cc Ab cb p) (hD : D ≤ w.heap.size) (hl : p.chs.length ≤ 1000) (hs : p.bts.length ≤ 1000) (hpl : ∀ b ∈ p.bts, b.path.length ≤ 1000) :
    Calls Try.prog 31 #[.agg (prtV Ac cc Ab cb p)] w (OwnPrt w p) := by
  obtain ⟨L0, hL0, hrows, hpaths⟩ := hp.bts.rows;have hL0l : L0.length = p.bts.length := by rw [← hL0]; simp
  obtain ⟨W, hW⟩ : ∃ W, W = (w.alloc (.cells (prtV Ac cc Ab cb p) 26)).alloc (.cells #[.slice none 0 0, .slice none 0 0, .int .i64 0] 26) := ⟨_, rfl⟩;obtain ⟨ob, hob⟩ : ∃ b, b = w.heap.size := ⟨_, rfl⟩;obtain ⟨rb, hrb⟩ : ∃ b, b = w.heap.size + 1 := ⟨_, rfl⟩;have O0 : Own w.heap.size w [.blk ob (.cells (prtV Ac cc Ab cb p) 26), .blk rb (.cells #[.slice none 0 0, .slice none 0 0, .int .i64 0] 26)] W := by
    have h := ((Own.start w).alloc (.cells (prtV Ac cc Ab cb p) 26)).alloc (.cells #[.slice none 0 0, .slice none 0 0, .int .i64 0] 26);rw [hW, hob, hrb];simpa using h
  have b0 := O0.bel;have h1 := O0.heap 0 rfl;obtain ⟨n1, hn1⟩ : ∃ n, n = p.chs.length := ⟨_, rfl⟩;obtain ⟨n2, hn2⟩ : ∃ n, n = p.bts.length := ⟨_, rfl⟩;obtain ⟨h, hh⟩ : ∃ h, h = p.tugs := ⟨_, rfl⟩;have C1 := fun wx (hk : Keep [ob] W wx) => cloneChn_any Ac n1 cc (chcs p.chs) wx (by have bw := b0.trans (hk.below b0.size (by simp [hob])); rw [hn1]; exact (hp.chs.below (bw.mono hD)).rd (by have := bw.size; omega)) (by intro u hu; obtain ⟨x, _, hx⟩ := List.mem_flatMap.1 hu; simp [chc] at hx; rcases hx with rfl | rfl | rfl <;> rfl) (fun e => ⟨by have := hp.c1.2.2 e; have := hp.c1.1; omega, hp.c1.2.2 e⟩) (by omega);have C2 := fun wx (hk : Keep [ob] W wx) => cloneBrt_any Ab n2 cb (brcs L0) wx (by have bw := b0.trans (hk.below b0.size (by simp [hob])); rw [hn2]; exact (hrows.below (bw.mono hD)).rd (by have := bw.size; omega)) (brcs_one L0) (fun e => ⟨by have := hp.c2.2.2 e; have := hp.c2.1; omega, hp.c2.2.2 e⟩) (by omega);have HC := Lib.hid (And.intro C1 C2);have hx : W.heap[ob]? = some (.cells #[.slice Ac n1 cc, .slice Ab n2 cb, .int .i64 h] 26 (0, 0)) := by rw [hn1, hn2, hh]; exact h1
  have HX := Lib.hid hx;have hne : rb ≠ ob := by omega
  have zo := hL_ h1;have HO := Lib.hid (And.intro O0 (And.intro hob (And.intro hrb (And.intro hn1 (And.intro hn2 hh)))));have HL := Lib.hid (And.intro hL0 (And.intro hL0l (And.intro hpl (And.intro hpaths (And.intro hs hD)))));simp only [prtV];rw [← hn1, ← hn2, ← hh];have hs2 : n2 ≤ 1000 := by omega
  clear C1 C2 h1 hx hp b0 hl hs hL0 hL0l hpl hpaths hrows hD
  go_enter Try.func31, Try.ntmps31
  go_upto_region 1 with fail
  rw [← hW, ← hrb, ← hob];clear hW hob hrb hn1 hn2 hh;refine wRS (σ := Cl2S) (by kernel_rfl) (by kernel_rfl) (fun sg jx vx _ => CpoV ob n1 n2 cc cb Ac Ab sg jx vx) (fun sg ly wx => Cl2W ⟨144, 3, n1, chcs p.chs, 53, 2, n2, brcs L0, ob, 26⟩ 2 5 (fun s l => #[if l 7 then .slice s.A1 n1 s.c1 else .slice Ac n1 cc, if l 9 then .slice s.A2 n2 s.c2 else .slice Ab n2 cb, .int .i64 h]) W sg ly wx) ⟨none, 0, [], none, 0, []⟩ ?_ ?_ ?_
  · exact Cl2W.start HX.out
  · simp only [AllFrom, Nat.zero_add, Nat.reduceAdd];refine ⟨?_, ?_, ?_, ?_, ?_, ?_, ?_, ?_, ?_, ?_, trivial⟩
    · refine sP_ fun sg ly a wr hl hd hW hF => ?_;have et1 := hF.old 1 (by kernel_rfl);simp [Act.eval] at et1;exact ⟨hW.other 0 (by decide) (by decide) (by simp [upd]), .pointer (some ⟨ob, 0, none⟩), by go_simp, rfl⟩
    · refine sP_ fun sg ly a wr hl hd hW hF => ?_;simp [Region.binds] at hd;have et4 := hF.new 0 4 (by simp [hd]) rfl;simp [CpoV, Act.eval] at et4;have n7 := hF.notYet 1 7 hl (by kernel_rfl);have hh := hW.hob;have cL := (cOH hh 0).trans rfl;try simp only [n7, if_false, Bool.false_eq_true] at cL
      have zL := hL_ hh;exact ⟨hW.other 1 (by decide) (by decide) (by simp [upd]), .slice Ac n1 cc, by go_simp, rfl⟩
    · refine sC_ fun sg ly a wr hl hd hW hF => ?_;simp [Region.binds] at hd;have et5 := hF.new 1 5 (by simp [hd]) rfl;simp [CpoV, Act.eval] at et5;have n7 := hF.notYet 2 7 hl (by kernel_rfl);refine ⟨85, #[.slice Ac n1 cc], by go_simp, ?_⟩;refine (HC.out.1 wr hW.kp).mono ?_;rintro e w2 ⟨A', c', q, rfl, h1, h2, h3⟩;refine ⟨_, { sg with A1 := A', c1 := c', q1 := q }, rfl, hW.call1 (by decide) h1 h2 h3 (by simp [upd, n7]), rfl, ?_⟩;intro i u hi h;have i2 : i ≠ 2 := by rintro rfl; rw [hl] at hi; cases hi
      have i7 : i ≠ 7 := by rintro rfl; rw [n7] at hi; cases hi
      unfold CpoV at h ⊢;split at h <;> first | exact h | exact absurd rfl i2 | exact absurd rfl i7
    · refine sP_ fun sg ly a wr hl hd hW hF => ?_;have et1 := hF.old 1 (by kernel_rfl);simp [Act.eval] at et1;exact ⟨hW.other 3 (by decide) (by decide) (by simp [upd]), .pointer (some ⟨ob, 1, none⟩), by go_simp, rfl⟩
    · refine sP_ fun sg ly a wr hl hd hW hF => ?_;simp [Region.binds] at hd;have et7 := hF.new 3 7 (by simp [hd]) rfl;simp [CpoV, Act.eval] at et7;have n9 := hF.notYet 4 9 hl (by kernel_rfl);have hh := hW.hob;have cL := (cOH hh 1).trans rfl;try simp only [n9, if_false, Bool.false_eq_true] at cL
      have zL := hL_ hh;exact ⟨hW.other 4 (by decide) (by decide) (by simp [upd]), .slice Ab n2 cb, by go_simp, rfl⟩
    · refine sC_ fun sg ly a wr hl hd hW hF => ?_;simp [Region.binds] at hd;have et8 := hF.new 4 8 (by simp [hd]) rfl;simp [CpoV, Act.eval] at et8;have n9 := hF.notYet 5 9 hl (by kernel_rfl);refine ⟨86, #[.slice Ab n2 cb], by go_simp, ?_⟩;refine (HC.out.2 wr hW.kp).mono ?_;rintro e w2 ⟨A', c', q, rfl, h1, h2, h3⟩;refine ⟨_, { sg with A2 := A', c2 := c', q2 := q }, rfl, hW.call2 (by decide) h1 h2 h3 (by simp [upd, n9]), rfl, ?_⟩;intro i u hi h;have i5 : i ≠ 5 := by rintro rfl; rw [hl] at hi; cases hi
      have i9 : i ≠ 9 := by rintro rfl; rw [n9] at hi; cases hi
      unfold CpoV at h ⊢;split at h <;> first | exact h | exact absurd rfl i5 | exact absurd rfl i9
    · refine sP_ fun sg ly a wr hl hd hW hF => ?_;have et1 := hF.old 1 (by kernel_rfl);simp [Act.eval] at et1;exact ⟨hW.other 6 (by decide) (by decide) (by simp [upd]), .pointer (some ⟨ob, 0, none⟩), by go_simp, rfl⟩
    · refine sS_ rfl fun sg ly a wx hl hd hW hF => ?_;simp [Region.binds] at hd;have et10 := hF.new 6 10 (by simp [hd]) rfl;simp [CpoV, Act.eval] at et10;have et6 := hF.new 2 6 (by simp [hd]) rfl;simp [CpoV, Act.eval] at et6;have y2 : ly 2 = true := by simp [hd]
      have hh := hW.hob;have cL0 := (cOH hh 0).trans rfl;have fL0 := fOH hh 0;have zL := hL_ hh;exact ⟨(wx.setCell ⟨ob, 0, none⟩ (.slice sg.A1 n1 sg.c1)), sg, .skip, by go_simp, .inl rfl, hW.put 7 (by decide) (by decide) ((Keep.refl _ _).setCell (.inl (by simp)) _) ((hS_ (hh) 0 _).trans (by simp [upd, hl])), fun _ _ _ h => h⟩
    · refine sP_ fun sg ly a wr hl hd hW hF => ?_;have et1 := hF.old 1 (by kernel_rfl);simp [Act.eval] at et1;exact ⟨hW.other 8 (by decide) (by decide) (by simp [upd]), .pointer (some ⟨ob, 1, none⟩), by go_simp, rfl⟩
    · refine sS_ rfl fun sg ly a wx hl hd hW hF => ?_;simp [Region.binds] at hd;have et11 := hF.new 8 11 (by simp [hd]) rfl;simp [CpoV, Act.eval] at et11;have et9 := hF.new 5 9 (by simp [hd]) rfl;simp [CpoV, Act.eval] at et9;have y5 : ly 5 = true := by simp [hd]
      have hh := hW.hob;have cL1 := (cOH hh 1).trans rfl;have fL1 := fOH hh 1;have zL := hL_ hh;exact ⟨(wx.setCell ⟨ob, 1, none⟩ (.slice sg.A2 n2 sg.c2)), sg, .skip, by go_simp, .inl rfl, hW.put 9 (by decide) (by decide) ((Keep.refl _ _).setCell (.inl (by simp)) _) ((hS_ (hh) 1 _).trans (by simp [upd, hl])), fun _ _ _ h => h⟩
  intro s1 af w4 hWW hF;obtain ⟨ff, hf, rfl⟩ := hF.lit;obtain ⟨o1, o1'⟩ := hWW.a1 rfl;obtain ⟨o2, o2'⟩ := hWW.a2 rfl;have hob4 := hWW.hob;have hdj := hWW.dj rfl rfl;simp only [List.length_cons, List.length_nil, Nat.reduceAdd, Nat.reduceLT, decide_true, if_true] at hob4;obtain ⟨A1, c1, q1, A2, c2, q2⟩ := s1;simp only at o1 o2 o1' o2' hob4 hdj;have O4 : Own w.heap.size w [.blk ob (.cells #[.slice A1 n1 c1, .slice A2 n2 c2, .int .i64 h] 26), .blk rb (.cells #[.slice none 0 0, .slice none 0 0, .int .i64 0] 26), .own 144 3 A1 n1 c1 (chcs p.chs) q1, .own 53 2 A2 n2 c2 (brcs L0) q2] w4 := by
    have zW := HO.out.1.lt 0 rfl (x := ob) (by simp [It.fp]);have zR := HO.out.1.lt 1 rfl (x := rb) (by simp [It.fp]);have hlo := HO.out.1.lo;have a := (HO.out.1.set 0 rfl (hWW.kp) hob4);have b := a.add (i := .own 144 3 A1 n1 c1 (chcs p.chs) q1) o1 (fun x hx => by have := o1' x hx; omega) (by intro j hj x hx hm; have := o1' x hx; simp at hj; rcases hj with rfl | rfl <;> simp [It.fp] at hm <;> omega);have d := b.add (i := .own 53 2 A2 n2 c2 (brcs L0) q2) o2 (fun x hx => by have := o2' x hx; omega) (by
      intro j hj x hx hm; have := o2' x hx; simp at hj; rcases hj with rfl | rfl | rfl
      · simp [It.fp] at hm; omega
      · simp [It.fp] at hm; omega
      · exact hdj x hm hx)
    exact d
  have P4 : PathsN (rb :: q2) w4 L0 := fun y hy => PathN.of_pathB ((HL.out.2.2.2.1 y hy).below (O4.bel.mono HL.out.2.2.2.2.2)) (by have := O4.lo; have := HL.out.2.2.2.2.2; omega) (fun x hx => by have h3 := HL.out.2.2.2.2.2; rcases List.mem_cons.1 hx with e | e; (have := O4.ge 1 rfl (x := rb) (by simp [It.fp]); omega); (have := O4.ge 3 rfl (x := x) e; omega));have q0 := (cOH (O4.heap 0 rfl) 1).trans rfl;have zo4 := hL_ (O4.heap 0 rfl);have H4 := Lib.hid (And.intro O4 P4);clear hf hF hWW o1 o2 o1' o2' hob4 hdj O4 P4;simp only [List.filterMap, List.foldl, List.setIfInBounds_toArray, List.set_cons_succ, List.set_cons_zero];go_wp2_with fail
  clear q0 zo4
  go_loopg [15] (n2) (fun g i wr => ∃ (k : Nat) (L : List BrR), g + k = n2 ∧ i = .int .i64 k ∧ L.map (·.b) = p.bts ∧ PathsN (rb :: q2) wr L ∧ PathsN (rb :: (q2 ++ List.range w.heap.size)) wr (L.take k) ∧
    Own w.heap.size w [.blk ob (.cells #[.slice A1 n1 c1, .slice A2 n2 c2, .int .i64 h] 26), .blk rb (.cells #[.slice none 0 0, .slice none 0 0, .int .i64 0] 26), .own 144 3 A1 n1 c1 (chcs p.chs) q1, .own 53 2 A2 n2 c2 (brcs L) q2] wr)
  case atStart => exact ⟨0, L0, rfl, rfl, HL.out.1, H4.out.2, fun y hy => absurd hy (by simp), H4.out.1⟩
  case round =>
    obtain ⟨k, L, hk, rfl, hLb, hP, hPn, hO⟩ := hrel;have hLl : L.length = n2 := by have := congrArg List.length hLb; simp at this; rw [this]; exact HO.out.2.2.2.2.1.symm
    by_cases hlt : k < n2
    · obtain ⟨g, rfl, rfl, zg, hcell, hfz⟩ := (hO.owns 3 rfl).some_ (by omega);obtain ⟨W0, hW0⟩ : ∃ W0, W0 = wr := ⟨_, rfl⟩;subst hW0;obtain ⟨b0, b1⟩ := brcs_get (l := L) (k := k) (by omega);obtain ⟨y, hy⟩ : ∃ y, y = L[k] := ⟨_, rfl⟩;rw [← hy] at b0 b1;have hyb : y.b ∈ p.bts := by rw [← hLb, hy]; exact List.mem_map.2 ⟨_, List.getElem_mem _, rfl⟩
      have hpy : PathN [rb, g] W0 y.A y.c y.b.path := hP y (by rw [hy]; exact List.getElem_mem _);have hml := HL.out.2.2.1 _ hyb;obtain ⟨⟨d0, path⟩, Ak, ck⟩ := y;simp only at b0 b1 hpy hml;obtain ⟨m, hm⟩ : ∃ m, m = path.length := ⟨_, rfl⟩;rw [← hm] at b1 hml;have zrr := hL_ (hO.heap 1 rfl);have CI : ∀ wx, Keep [g] W0 wx → Calls Try.prog 87 #[.slice Ak m ck] wx fun e w' => ∃ A1 c1, e = .returned (.slice A1 m c1) ∧ PathN (rb :: g :: List.range w.heap.size) w' A1 c1 path ∧ Below wx.heap.size wx w' := by
        intro wx hk;rw [hm];refine (copyIntsO_any Ak ck path wx (hpy.keep hk (S' := [rb, g]) (by simp) (fun x hx => .inl hx)).rd (by omega)).mono ?_;rintro e w' ⟨A1, c1, q, rfl, h1, h2, h3⟩;exact ⟨A1, c1, rfl, PathN.of_ownA h1 (fun x hx => by have := h2 x hx; have := hk.size; have := zrr; have := hO.bel.size; simp; omega), h3⟩
      have h1 := (cOH (hO.heap 0 rfl) 1).trans rfl;have hgo : ob ≠ g := hO.ne 0 3 rfl rfl (by decide) (by simp [It.fp]) (by simp [It.fp]);have HY := Lib.hid (And.intro h1 (And.intro hgo (And.intro b1 CI)));have ho3 := hO.owns 3 rfl;have HY2 : Hid (OwnS W0 53 2 (some ⟨g, 0, none⟩) n2 c2 (brcs L) [g]) := Lib.hid ho3;have HPN := Lib.hid hPn;have HS := Lib.hid (And.intro hP (And.intro hO (And.intro hLb (And.intro hLl (And.intro hy hm)))));have hkI : (k : Int) < (n2 : Int) := by omega
      have zo := hL_ (hO.heap 0 rfl);clear hPn hO hP hLb hy hyb hpy b0 b1 CI hcell hfz h1 ho3 hm;go_upto_region 5 with fail
      refine wRS (σ := CpS) (by kernel_rfl) (by kernel_rfl) (fun sg jx vx _ => CpbV W0 (List.range w.heap.size) rb ob g n2 c2 k m ck Ak path (brcs L) sg jx vx) (fun sg ly wx => CpbW W0 (List.range w.heap.size) rb ob g n2 c2 k m ck Ak path (brcs L) sg ly wx) ⟨none, 0⟩ ?_ ?_ ?_
      · exact ⟨(Keep.refl _ _).drew, fun h => absurd h (by simp), HY2.out⟩
      · simp only [AllFrom, Nat.zero_add, Nat.reduceAdd];refine ⟨?_, ?_, ?_, ?_, ?_, ?_, ?_, ?_, ?_, ?_, ?_, ?_, ?_, trivial⟩
        · refine sP_ fun sg ly a wr hl hd hW hF => ?_;have et1 := hF.old 1 (by kernel_rfl);simp [Act.eval] at et1;exact ⟨by simpa [CpbW, upd] using hW, .pointer (some ⟨ob, 1, none⟩), by go_simp, rfl⟩
        · refine sP_ fun sg ly a wr hl hd hW hF => ?_;simp [Region.binds] at hd;have et18 := hF.new 0 18 (by simp [hd]) rfl;simp [CpbV, Act.eval] at et18;have c0 := hW.1.cell HY.out.1 (by simpa using HY.out.2.1);exact ⟨by simpa [CpbW, upd] using hW, _, by go_simp, rfl⟩
        · refine sP_ fun sg ly a wr hl hd hW hF => ?_;have et3 := hF.old 3 (by kernel_rfl);simp [Act.eval] at et3;exact ⟨by simpa [CpbW, upd] using hW, .int .i64 k, by go_simp, rfl⟩
        · refine sP_ fun sg ly a wr hl hd hW hF => ?_;have et1 := hF.old 1 (by kernel_rfl);simp [Act.eval] at et1;exact ⟨by simpa [CpbW, upd] using hW, .pointer (some ⟨ob, 1, none⟩), by go_simp, rfl⟩
        · refine sP_ fun sg ly a wr hl hd hW hF => ?_;simp [Region.binds] at hd;have et21 := hF.new 3 21 (by simp [hd]) rfl;simp [CpbV, Act.eval] at et21;have c0 := hW.1.cell HY.out.1 (by simpa using HY.out.2.1);exact ⟨by simpa [CpbW, upd] using hW, _, by go_simp, rfl⟩
        · refine sP_ fun sg ly a wr hl hd hW hF => ?_;have et3 := hF.old 3 (by kernel_rfl);simp [Act.eval] at et3;exact ⟨by simpa [CpbW, upd] using hW, .int .i64 k, by go_simp, rfl⟩
        · refine sP_ fun sg ly a wr hl hd hW hF => ?_;simp [Region.binds] at hd;have et22 := hF.new 4 22 (by simp [hd]) rfl;simp [CpbV, Act.eval] at et22;have et23 := hF.new 5 23 (by simp [hd]) rfl;simp [CpbV, Act.eval] at et23;exact ⟨by simpa [CpbW, upd] using hW, .pointer (some ⟨g, k * 2, none⟩), by go_simp, rfl⟩
        · refine sP_ fun sg ly a wr hl hd hW hF => ?_;simp [Region.binds] at hd;have et24 := hF.new 6 24 (by simp [hd]) rfl;simp [CpbV, Act.eval] at et24;exact ⟨by simpa [CpbW, upd] using hW, .pointer (some ⟨g, k * 2 + 1, none⟩), by go_simp, rfl⟩
        · refine sP_ fun sg ly a wr hl hd hW hF => ?_;simp [Region.binds] at hd;have et25 := hF.new 7 25 (by simp [hd]) rfl;simp [CpbV, Act.eval] at et25;have n12_9 := hF.notYet 8 9 hl (by kernel_rfl);have n12 := hF.notYet 9 12 n12_9 (by kernel_rfl);have ho := hW.2.2;rw [if_neg (by simp [n12])] at ho;obtain ⟨g', e', _, zz, hcell, _⟩ := ho.some_ (by omega);injection e' with e'
          injection e' with e' _ _
          subst e';have c0 := hcell _ _ HY.out.2.2.1;exact ⟨by simpa [CpbW, upd] using hW, .slice Ak m ck, by go_simp, rfl⟩
        · refine sC_ fun sg ly a wr hl hd hW hF => ?_;simp [Region.binds] at hd;have et26 := hF.new 8 26 (by simp [hd]) rfl;simp [CpbV, Act.eval] at et26;have n12 := hF.notYet 9 12 hl (by kernel_rfl);refine ⟨87, #[.slice Ak m ck], by go_simp, ?_⟩;refine (HY.out.2.2.2 wr hW.1).mono ?_;rintro e w2 ⟨A', c', rfl, hp, hb⟩;have ho := hW.2.2;rw [if_neg (by simp [n12])] at ho;refine ⟨_, ⟨A', c'⟩, rfl, ⟨hW.1.trans (Keep.of_below (S := []) hb) (by simp), fun _ => hp, by rw [if_neg (by simp [upd, n12])]; exact ho.keepS (Keep.of_below (S := []) hb) (by simp)⟩, rfl, ?_⟩;intro i u hi h;have i9 : i ≠ 9 := by rintro rfl; rw [hl] at hi; cases hi
          unfold CpbV at h ⊢;split at h <;> first | exact h | exact absurd rfl i9
        · refine sP_ fun sg ly a wr hl hd hW hF => ?_;simp [Region.binds] at hd;have et19 := hF.new 1 19 (by simp [hd]) rfl;simp [CpbV, Act.eval] at et19;have et20 := hF.new 2 20 (by simp [hd]) rfl;simp [CpbV, Act.eval] at et20;exact ⟨by simpa [CpbW, upd] using hW, .pointer (some ⟨g, k * 2, none⟩), by go_simp, rfl⟩
        · refine sP_ fun sg ly a wr hl hd hW hF => ?_;simp [Region.binds] at hd;have et28 := hF.new 10 28 (by simp [hd]) rfl;simp [CpbV, Act.eval] at et28;exact ⟨by simpa [CpbW, upd] using hW, .pointer (some ⟨g, k * 2 + 1, none⟩), by go_simp, rfl⟩
        · refine sS_ rfl fun sg ly a wr hl hd hW hF => ?_;simp [Region.binds] at hd;have et29 := hF.new 11 29 (by simp [hd]) rfl;simp [CpbV, Act.eval] at et29;have et27 := hF.new 9 27 (by simp [hd]) rfl;simp [CpbV, Act.eval] at et27;have y9 : ly 9 = true := by simp [hd]
          have ho := hW.2.2;rw [if_neg (by simp [hl])] at ho;obtain ⟨g', e', _, zz, hcell, hfz⟩ := ho.some_ (by omega);injection e' with e'
          injection e' with e' _ _
          subst e';have c0 := hcell _ _ HY.out.2.2.1;have f0 := hfz (k * 2 + 1);have hk : Keep [g] wr (wr.setCell ⟨g, k * 2 + 1, none⟩ (.slice sg.A m sg.c)) := (Keep.refl _ _).setCell (.inl (by simp)) _;exact ⟨_, sg, .skip, by go_simp, .inl rfl, ⟨hW.1.setCell (.inl (by simp)) _, fun h => (hW.2.1 y9).keep hk (by simp) (fun x hx => .inl hx), by rw [if_pos (by simp [upd])]; exact ho.set_ _ _⟩, fun _ _ _ h => h⟩
      intro sg af w5 hWW hF;obtain ⟨ff, hf, rfl⟩ := hF.lit;obtain ⟨k5, p5, o5⟩ := hWW;have p5' := p5 rfl;simp only [List.length_cons, List.length_nil, Nat.reduceAdd, Nat.reduceLT, decide_true, if_true] at o5;obtain ⟨hP, hO, hLb, hLl, hy, hm⟩ := HS.out;have e1 : (brcs L).set (k * 2 + 1) (.slice sg.A m sg.c) = brcs (L.set k ⟨(L[k]'(by omega)).b, sg.A, sg.c⟩) := by
        have e := brcs_set (L := L) (k := k) (by omega) sg.A sg.c;rw [← hy] at e;simp only at e;rw [← hy, e, hm]
      have hN := And.intro (hO.upd 3 rfl k5 (i' := .own 53 2 (some ⟨g, 0, none⟩) n2 c2 (brcs (L.set k ⟨(L[k]'(by omega)).b, sg.A, sg.c⟩)) [g]) (by show OwnS _ _ _ _ _ _ _ _; rw [← e1]; exact o5) (fun x hx => .inl hx)) (And.intro (show PathsN [rb, g] w5 (L.set k ⟨(L[k]'(by omega)).b, sg.A, sg.c⟩) from (hP.keep k5 (by simp) (fun x hx => .inl hx)).set (by have e3 : (L[k]'(by omega)).b.path = path := (by rw [← hy]); simp only [e3]; exact p5'.keep (Keep.refl [] _) (by simp) (fun x hx => .inl (by simp at hx; rcases hx with rfl | rfl <;> simp)))) (show (L.set k ⟨(L[k]'(by omega)).b, sg.A, sg.c⟩).map (·.b) = p.bts from by rw [map_set_b (by omega)]; exact hLb));have HN := Lib.hid hN;have hPn5 : PathsN (rb :: ([g] ++ List.range w.heap.size)) w5 ((L.set k ⟨(L[k]'(by omega)).b, sg.A, sg.c⟩).take (k + 1)) := by
        rw [List.take_succ_eq_append_getElem (by rw [List.length_set]; omega), List.take_set_of_le (Nat.le_refl _)];refine ((HPN.out).keep k5 (by intro x hx; rw [List.mem_singleton.1 hx]; simp) (fun x hx => .inl hx)).snoc ?_;have e3 : (L[k]'(by omega)).b.path = path := (by rw [← hy]);simp only [List.getElem_set_self, e3];exact p5'
      have HN5 := Lib.hid hPn5;clear hf hF p5 p5' o5 hP hO hLb hy hm e1 hN k5 hPn5;simp only [List.filterMap, List.foldl, List.setIfInBounds_toArray, List.set_cons_succ, List.set_cons_zero];go_wp2_with fail
      go_roundg (gk - 1);case measure => omega
      case rel => exact ⟨k + 1, _, by omega, by go_num, HN.out.2.2, HN.out.2.1, HN5.out, HN.out.1⟩
    · obtain rfl : k = n2 := by omega
      have hob4 := hO.heap 0 rfl;have hr4 := hO.heap 1 rfl;have q0 := (cOH hob4 0).trans rfl;have q1' := (cOH hob4 1).trans rfl;have q2' := (cOH hob4 2).trans rfl;have f0 := fOH hr4 0;have f1 := fOH hr4 1;have f2 := fOH hr4 2;have r0 := (cOH hr4 0).trans rfl;have r1 := (cOH hr4 1).trans rfl;have r2 := (cOH hr4 2).trans rfl;have zo4 := hL_ hob4;have zr4 := hL_ hr4;rw [List.take_of_length_le (by omega)] at hPn;have H5 := Lib.hid (And.intro hO (And.intro hPn (And.intro hLb hr4)));clear hO hP hPn hLb hob4 hr4;go_wp2_with fail
      obtain ⟨hO, hP, hLb, hr4⟩ := H5.out;have ew := hS_ (hS_ (hS_ hr4 0 (.slice A1 n1 c1)) 1 (.slice A2 k c2)) 2 (.int .i64 h);have y0 := (cOH ew 0).trans rfl;have y1 := (cOH ew 1).trans rfl;have y2 := (cOH ew 2).trans rfl;obtain ⟨-, -, -, hn1, hn2, hh⟩ := HO.out;have kr : Keep [rb] wr (((wr.setCell ⟨rb, 0, none⟩ (.slice A1 n1 c1)).setCell ⟨rb, 1, none⟩ (.slice A2 k c2)).setCell ⟨rb, 2, none⟩ (.int .i64 h)) := (((Keep.refl _ _).setCell (.inl (by simp)) _).setCell (.inl (by simp)) _).setCell (.inl (by simp)) _;have hset := hO.set 1 rfl kr ew;refine bodyPost_ret (v := .agg #[.slice A1 n1 c1, .slice A2 k c2, .int .i64 h]) (by simp [results, Try.results31, go_sem, y0, y1, y2]) rfl ?_;have hlo := HO.out.1.lo;have hD1 : w.heap.size ≤ rb := hO.ge 1 rfl (by simp [It.fp]);exact ⟨A1, c1, A2, c2, q1, q2, L, by first | rfl | (simp only [prtV]; rw [← hn1, ← hn2, ← hh]), by rw [← hn1]; exact hset.owns 2 rfl, by rw [← hn2]; exact hset.owns 3 rfl, hLb, hP.keep kr (fun x hx => .inl (by rw [List.mem_singleton.1 hx]; simp)) (fun x hx => .inl (by simp only [List.mem_cons]; exact .inr hx)), fun x hx => hO.ge 2 rfl (x := x) hx, fun x hx => hO.ge 3 rfl (x := x) hx, fun x hx hm => hO.dis 2 3 _ _ rfl rfl (by decide) x (by simpa [It.fp] using hx) (by simpa [It.fp] using hm), hset.bel⟩
theorem copyPort_any (D : Nat) (Ac : Option Addr) (cc : Nat) (Ab : Option Addr) (cb : Nat) (p : Prt) (w : World) (hp : PrtB D w Ac cc Ab cb p) (hD : D ≤ w.heap.size) (hl : p.chs.length ≤ 1000) (hs : p.bts.length ≤ 1000) (hpl : ∀ b ∈ p.bts, b.path.length ≤ 1000) :
    Calls Try.prog 31 #[.agg (prtV Ac cc Ab cb p)] w (NewPrt w p) := (copyPort_own D Ac cc Ab cb p w hp hD hl hs hpl).mono fun _ _ h => h.new
def CppV (ob n1 n2 cl cs : Nat) (Al As : Option Addr) (s : Cl2S) : Nat → Value → Prop
  | 0, v => v = .pointer (some ⟨ob, 1, none⟩)
  | 1, v => v = .slice Al n1 cl
  | 2, v => v = .slice s.A1 n1 s.c1
  | 3, v => v = .pointer (some ⟨ob, 2, none⟩)
  | 4, v => v = .slice As n2 cs
  | 5, v => v = .slice s.A2 n2 s.c2
  | 6, v => v = .pointer (some ⟨ob, 1, none⟩)
  | 8, v => v = .pointer (some ⟨ob, 2, none⟩)
  | _, _ => True
def OwnPln (w : World) (l : Pln) (e : Ending) (w' : World) : Prop := ∃ Al cl As cs q1 q2, e = .returned (.agg (plnV Al cl As cs l)) ∧ OwnS w' 55 6 Al l.calls.length cl (cacs l.calls) q1 ∧ OwnS w' 126 3 As l.swps.length cs (swcs l.swps) q2 ∧
  (∀ x ∈ q1, w.heap.size ≤ x) ∧ (∀ x ∈ q2, w.heap.size ≤ x) ∧ (∀ x ∈ q1, x ∉ q2) ∧ Below w.heap.size w w'
theorem copyPlan_own (D : Nat) (Al : Option Addr) (cl : Nat) (As : Option Addr) (cs : Nat) (l : Pln) (w : World) (hp : PlnB D w Al cl As cs l) (hD : D ≤ w.heap.size) (hl : l.calls.length ≤ 100000000) (hs : l.swps.length ≤ 100000000) :
    Calls Try.prog 33 #[.agg (plnV Al cl As cs l)] w (OwnPln w l) := by
  obtain ⟨W, hW⟩ : ∃ W, W = (w.alloc (.cells (plnV Al cl As cs l) 31)).alloc (.cells #[.int .i64 0, .slice none 0 0, .slice none 0 0] 31) := ⟨_, rfl⟩;obtain ⟨ob, hob⟩ : ∃ b, b = w.heap.size := ⟨_, rfl⟩;obtain ⟨rb, hrb⟩ : ∃ b, b = w.heap.size + 1 := ⟨_, rfl⟩;have b0 : Below w.heap.size w W := by rw [hW]; exact ((Below.refl _ _).alloc (Nat.le_refl _) _).alloc (by simp) _
  have h1 : W.heap[ob]? = some (.cells (plnV Al cl As cs l) 31 (0, 0)) := by rw [hW, hob]; exact hA_ (heap_alloc_new _ _) _
  have h2 : W.heap[rb]? = some (.cells #[.int .i64 0, .slice none 0 0, .slice none 0 0] 31 (0, 0)) := by
    rw [hW, hrb];have := heap_alloc_new (w.alloc (.cells (plnV Al cl As cs l) 31)) (.cells #[.int .i64 0, .slice none 0 0, .slice none 0 0] 31)
    rwa [World.size_alloc] at this
  have hp1 := hp.below (b0.mono hD);obtain ⟨n1, hn1⟩ : ∃ n, n = l.calls.length := ⟨_, rfl⟩;obtain ⟨n2, hn2⟩ : ∃ n, n = l.swps.length := ⟨_, rfl⟩;obtain ⟨h, hh⟩ : ∃ h, h = l.hours := ⟨_, rfl⟩;have hDW : D ≤ W.heap.size := Nat.le_trans hD b0.size;have C1 := fun wx (hk : Keep [ob] W wx) => cloneCal_any Al n1 cl (cacs l.calls) wx (by have bw := b0.trans (hk.below b0.size (by simp [hob])); rw [hn1]; exact (hp.calls.below (bw.mono hD)).rd (by have := bw.size; omega)) (by intro u hu; obtain ⟨x, _, hx⟩ := List.mem_flatMap.1 hu; simp [cac] at hx; rcases hx with rfl | rfl | rfl | rfl | rfl | rfl <;> rfl) (fun e => ⟨by have := hp.c1.2.2 e; have := hp.c1.1; omega, hp.c1.2.2 e⟩) (by omega);have C2 := fun wx (hk : Keep [ob] W wx) => cloneSwp_any As n2 cs (swcs l.swps) wx (by have bw := b0.trans (hk.below b0.size (by simp [hob])); rw [hn2]; exact (hp.swps.below (bw.mono hD)).rd (by have := bw.size; omega)) (by intro u hu; obtain ⟨x, _, hx⟩ := List.mem_flatMap.1 hu; simp [swc] at hx; rcases hx with rfl | rfl | rfl <;> rfl) (fun e => ⟨by have := hp.c2.2.2 e; have := hp.c2.1; omega, hp.c2.2.2 e⟩) (by omega);have HC := Lib.hid (And.intro C1 C2);have hx : W.heap[ob]? = some (.cells #[.int .i64 h, .slice Al n1 cl, .slice As n2 cs] 31 (0, 0)) := by rw [hn1, hn2, hh]; exact h1
  have HX := Lib.hid hx;have hne : rb ≠ ob := by omega
  have zo := hL_ h1;have zr := hL_ h2;have HO := Lib.hid (And.intro h2 (And.intro b0 (And.intro hob (And.intro hrb (And.intro hn1 (And.intro hn2 hh))))));simp only [plnV];rw [← hn1, ← hn2, ← hh];clear C1 C2 h1 h2 hx hp1 hp hDW b0 hl hs
  go_enter Try.func33, Try.ntmps33
  go_upto_region 1 with fail
  rw [← hW, ← hrb, ← hob];clear hW hob hrb hn1 hn2 hh;refine wRS (σ := Cl2S) (by kernel_rfl) (by kernel_rfl) (fun sg jx vx _ => CppV ob n1 n2 cl cs Al As sg jx vx) (fun sg ly wx => Cl2W ⟨55, 6, n1, cacs l.calls, 126, 3, n2, swcs l.swps, ob, 31⟩ 2 5 (fun s l => #[.int .i64 h, if l 7 then .slice s.A1 n1 s.c1 else .slice Al n1 cl, if l 9 then .slice s.A2 n2 s.c2 else .slice As n2 cs]) W sg ly wx) ⟨none, 0, [], none, 0, []⟩ ?_ ?_ ?_
  · exact Cl2W.start HX.out
  · simp only [AllFrom, Nat.zero_add, Nat.reduceAdd];refine ⟨?_, ?_, ?_, ?_, ?_, ?_, ?_, ?_, ?_, ?_, trivial⟩
    · refine sP_ fun sg ly a wr hl hd hW hF => ?_;have et1 := hF.old 1 (by kernel_rfl);simp [Act.eval] at et1;exact ⟨hW.other 0 (by decide) (by decide) (by simp [upd]), .pointer (some ⟨ob, 1, none⟩), by go_simp, rfl⟩
    · refine sP_ fun sg ly a wr hl hd hW hF => ?_;simp [Region.binds] at hd;have et3 := hF.new 0 3 (by simp [hd]) rfl;simp [CppV, Act.eval] at et3;have n7 := hF.notYet 1 7 hl (by kernel_rfl);have hh := hW.hob;have cL := (cOH hh 1).trans rfl;try simp only [n7, if_false, Bool.false_eq_true] at cL
      have zL := hL_ hh;exact ⟨hW.other 1 (by decide) (by decide) (by simp [upd]), .slice Al n1 cl, by go_simp, rfl⟩
    · refine sC_ fun sg ly a wr hl hd hW hF => ?_;simp [Region.binds] at hd;have et4 := hF.new 1 4 (by simp [hd]) rfl;simp [CppV, Act.eval] at et4;have n7 := hF.notYet 2 7 hl (by kernel_rfl);refine ⟨89, #[.slice Al n1 cl], by go_simp, ?_⟩;refine (HC.out.1 wr hW.kp).mono ?_;rintro e w2 ⟨A', c', q, rfl, h1, h2, h3⟩;refine ⟨_, { sg with A1 := A', c1 := c', q1 := q }, rfl, hW.call1 (by decide) h1 h2 h3 (by simp [upd, n7]), rfl, ?_⟩;intro i u hi h;have i2 : i ≠ 2 := by rintro rfl; rw [hl] at hi; cases hi
      have i7 : i ≠ 7 := by rintro rfl; rw [n7] at hi; cases hi
      unfold CppV at h ⊢;split at h <;> first | exact h | exact absurd rfl i2 | exact absurd rfl i7
    · refine sP_ fun sg ly a wr hl hd hW hF => ?_;have et1 := hF.old 1 (by kernel_rfl);simp [Act.eval] at et1;exact ⟨hW.other 3 (by decide) (by decide) (by simp [upd]), .pointer (some ⟨ob, 2, none⟩), by go_simp, rfl⟩
    · refine sP_ fun sg ly a wr hl hd hW hF => ?_;simp [Region.binds] at hd;have et6 := hF.new 3 6 (by simp [hd]) rfl;simp [CppV, Act.eval] at et6;have n9 := hF.notYet 4 9 hl (by kernel_rfl);have hh := hW.hob;have cL := (cOH hh 2).trans rfl;try simp only [n9, if_false, Bool.false_eq_true] at cL
      have zL := hL_ hh;exact ⟨hW.other 4 (by decide) (by decide) (by simp [upd]), .slice As n2 cs, by go_simp, rfl⟩
    · refine sC_ fun sg ly a wr hl hd hW hF => ?_;simp [Region.binds] at hd;have et7 := hF.new 4 7 (by simp [hd]) rfl;simp [CppV, Act.eval] at et7;have n9 := hF.notYet 5 9 hl (by kernel_rfl);refine ⟨90, #[.slice As n2 cs], by go_simp, ?_⟩;refine (HC.out.2 wr hW.kp).mono ?_;rintro e w2 ⟨A', c', q, rfl, h1, h2, h3⟩;refine ⟨_, { sg with A2 := A', c2 := c', q2 := q }, rfl, hW.call2 (by decide) h1 h2 h3 (by simp [upd, n9]), rfl, ?_⟩;intro i u hi h;have i5 : i ≠ 5 := by rintro rfl; rw [hl] at hi; cases hi
      have i9 : i ≠ 9 := by rintro rfl; rw [n9] at hi; cases hi
      unfold CppV at h ⊢;split at h <;> first | exact h | exact absurd rfl i5 | exact absurd rfl i9
    · refine sP_ fun sg ly a wr hl hd hW hF => ?_;have et1 := hF.old 1 (by kernel_rfl);simp [Act.eval] at et1;exact ⟨hW.other 6 (by decide) (by decide) (by simp [upd]), .pointer (some ⟨ob, 1, none⟩), by go_simp, rfl⟩
    · refine sS_ rfl fun sg ly a wx hl hd hW hF => ?_;simp [Region.binds] at hd;have et9 := hF.new 6 9 (by simp [hd]) rfl;simp [CppV, Act.eval] at et9;have et5 := hF.new 2 5 (by simp [hd]) rfl;simp [CppV, Act.eval] at et5;have y2 : ly 2 = true := by simp [hd]
      have hh := hW.hob;have cL1 := (cOH hh 1).trans rfl;have fL1 := fOH hh 1;have zL := hL_ hh;exact ⟨(wx.setCell ⟨ob, 1, none⟩ (.slice sg.A1 n1 sg.c1)), sg, .skip, by go_simp, .inl rfl, hW.put 7 (by decide) (by decide) ((Keep.refl _ _).setCell (.inl (by simp)) _) ((hS_ (hh) 1 _).trans (by simp [upd, hl])), fun _ _ _ h => h⟩
    · refine sP_ fun sg ly a wr hl hd hW hF => ?_;have et1 := hF.old 1 (by kernel_rfl);simp [Act.eval] at et1;exact ⟨hW.other 8 (by decide) (by decide) (by simp [upd]), .pointer (some ⟨ob, 2, none⟩), by go_simp, rfl⟩
    · refine sS_ rfl fun sg ly a wx hl hd hW hF => ?_;simp [Region.binds] at hd;have et10 := hF.new 8 10 (by simp [hd]) rfl;simp [CppV, Act.eval] at et10;have et8 := hF.new 5 8 (by simp [hd]) rfl;simp [CppV, Act.eval] at et8;have y5 : ly 5 = true := by simp [hd]
      have hh := hW.hob;have cL2 := (cOH hh 2).trans rfl;have fL2 := fOH hh 2;have zL := hL_ hh;exact ⟨(wx.setCell ⟨ob, 2, none⟩ (.slice sg.A2 n2 sg.c2)), sg, .skip, by go_simp, .inl rfl, hW.put 9 (by decide) (by decide) ((Keep.refl _ _).setCell (.inl (by simp)) _) ((hS_ (hh) 2 _).trans (by simp [upd, hl])), fun _ _ _ h => h⟩
  intro sg af w4 hWW hF;obtain ⟨ff, hf, rfl⟩ := hF.lit;obtain ⟨o1, o1'⟩ := hWW.a1 rfl;obtain ⟨o2, o2'⟩ := hWW.a2 rfl;have hob4 := hWW.hob;have hdj := hWW.dj rfl rfl;simp only [List.length_cons, List.length_nil, Nat.reduceAdd, Nat.reduceLT, decide_true, if_true] at hob4;have kp := hWW.kp;have hr4 := (kp.block _ zr (by simpa using hne)).trans HO.out.1;have q0 := (cOH hob4 0).trans rfl;have q1 := (cOH hob4 1).trans rfl;have q2 := (cOH hob4 2).trans rfl;have f0 := fOH hr4 0;have f1 := fOH hr4 1;have f2 := fOH hr4 2;have r0 := (cOH hr4 0).trans rfl;have r1 := (cOH hr4 1).trans rfl;have r2 := (cOH hr4 2).trans rfl;have zo4 := hL_ hob4;have zr4 := hL_ hr4;have H4 := Lib.hid (And.intro o1 (And.intro o1' (And.intro o2 (And.intro o2' (And.intro hdj (And.intro kp hr4))))));clear hf hF hWW o1 o2 o1' o2' hob4 kp hr4 hdj;simp only [List.filterMap, List.foldl, List.setIfInBounds_toArray, List.set_cons_succ, List.set_cons_zero];go_wp2_with fail
  obtain ⟨o1, o1', o2, o2', hdj, kp, hr4⟩ := H4.out;have ew := hS_ (hS_ (hS_ hr4 0 (.int .i64 h)) 1 (.slice sg.A1 n1 sg.c1)) 2 (.slice sg.A2 n2 sg.c2);have y0 := (cOH ew 0).trans rfl;have y1 := (cOH ew 1).trans rfl;have y2 := (cOH ew 2).trans rfl;obtain ⟨-, b0, hob, hrb, hn1, hn2, hh⟩ := HO.out;have kr : Keep [rb] w4 (((w4.setCell ⟨rb, 0, none⟩ (.int .i64 h)).setCell ⟨rb, 1, none⟩ (.slice sg.A1 n1 sg.c1)).setCell ⟨rb, 2, none⟩ (.slice sg.A2 n2 sg.c2)) := (((Keep.refl _ _).setCell (.inl (by simp)) _).setCell (.inl (by simp)) _).setCell (.inl (by simp)) _;refine bodyPost_ret (v := .agg (plnV sg.A1 sg.c1 sg.A2 sg.c2 l)) (by simp only [plnV]; rw [← hn1, ← hn2, ← hh]; simp [results, Try.results33, go_sem, y0, y1, y2]) rfl ?_;refine ⟨sg.A1, sg.c1, sg.A2, sg.c2, sg.q1, sg.q2, by first | rfl | (simp only [plnV]; rw [← hn1, ← hn2, ← hh]), ?_, ?_, ?_, ?_, hdj, ?_⟩
  · rw [← hn1]; exact o1.keepS kr (fun g hg => by have := o1' g hg; simp; omega)
  · rw [← hn2]; exact o2.keepS kr (fun g hg => by have := o2' g hg; simp; omega)
  · intro x hx; have := o1' x hx; have := b0.size; omega
  · intro x hx; have := o2' x hx; have := b0.size; omega
  · exact (b0.trans (kp.below b0.size (by simp; omega))).trans (kr.below (by have := b0.size; have := kp.size; omega) (by simp; omega))
end Go.Proofs.Ythmldeningpjbaa

namespace Go.Proofs.Ythmldeningpjbaa
open Go Go.RowKit Sp Pt
structure BrX where
  d : Int
  path : List Int
  A : Option Addr
  c : Nat
def BrX.b (x : BrX) : Brt := ⟨x.d, x.path⟩
def brx (b : BrX) : List Value := [.int .i64 b.d, .slice b.A b.path.length b.c]
abbrev brxs (l : List BrX) : List Value := l.flatMap brx
structure MdC where
  D : Nat
  rb : Nat
  pb : Nat
  ib : Nat
  lb : Nat
  tg : Int
structure MdS (K : MdC) (W0 : World) (chs : List Chn) (Ac : Option Addr) (cc : Nat) (fc : List Nat) (bs : List BrX) (Ab : Option Addr) (cb : Nat) (fb : List Nat) (w : World) : Prop where
  bel : Below K.D W0 w
  nx : NxS K.D w K.ib K.lb
  res : w.heap[K.rb]? = some (.cells #[.slice none 0 0, .slice none 0 0, .int .i64 0] 26 (0, 0))
  prt : w.heap[K.pb]? = some (.cells #[.slice Ac chs.length cc, .slice Ab bs.length cb, .int .i64 K.tg] 26 (0, 0))
  oc : OwnS w 144 3 Ac chs.length cc (chcs chs) fc
  ob : OwnS w 53 2 Ab bs.length cb (brxs bs) fb
  pth : ∀ x ∈ bs, ∃ g, x.A = some ⟨g, 0, none⟩ ∧ OwnS w 3 1 x.A x.path.length x.c (ints x.path) [g] ∧ K.D ≤ g ∧ g ∉ [K.rb, K.pb, K.ib, K.lb] ∧ g ∉ fc ∧ g ∉ fb
  sp : K.D ≤ K.rb ∧ K.D ≤ K.pb ∧ K.rb ≠ K.pb ∧ K.rb ≠ K.ib ∧ K.rb ≠ K.lb ∧ K.pb ≠ K.ib ∧ K.pb ≠ K.lb
  sc : ∀ g ∈ fc, K.D ≤ g ∧ g ∉ [K.rb, K.pb, K.ib, K.lb] ∧ g ∉ fb
  sb : ∀ g ∈ fb, K.D ≤ g ∧ g ∉ [K.rb, K.pb, K.ib, K.lb]
def Away (K : MdC) (fc : List Nat) (bs : List BrX) (fb : List Nat) (x : Nat) : Prop := K.D ≤ x ∧ x ∉ [K.rb, K.pb, K.ib, K.lb] ∧ x ∉ fc ∧ x ∉ fb ∧ ∀ y ∈ bs, y.A ≠ some ⟨x, 0, none⟩
section
variable {K : MdC} {W0 w w' : World} {chs : List Chn} {Ac : Option Addr} {cc : Nat} {fc : List Nat} {bs : List BrX} {Ab : Option Addr} {cb : Nat} {fb : List Nat}
theorem MdS.lo (h : MdS K W0 chs Ac cc fc bs Ab cb fb w) : K.D ≤ w.heap.size := by have := h.sp.1; have := hL_ h.res; omega
theorem MdS.fresh (h : MdS K W0 chs Ac cc fc bs Ab cb fb w) {x : Nat} (hx : w.heap.size ≤ x) : Away K fc bs fb x := by
  have h1 := hL_ h.res;have h2 := hL_ h.prt;have h3 := h.nx.lt;refine ⟨by omega, ?_, fun e => by have := h.oc.lt _ e; omega, fun e => by have := h.ob.lt _ e; omega, fun y hy e => ?_⟩
  · simp only [List.mem_cons, List.not_mem_nil, or_false]; omega
  · obtain ⟨g, e1, e2, _⟩ := h.pth y hy;rw [e1] at e;injection e with e
    injection e with e _ _
    have := e2.lt g (by simp);omega
theorem MdS.away (h : MdS K W0 chs Ac cc fc bs Ab cb fb w) {S : List Nat} (hk : Keep S w w') (hS : ∀ x ∈ S, Away K fc bs fb x) : MdS K W0 chs Ac cc fc bs Ab cb fb w' := by
  have n : ∀ {x : Nat}, x ∈ [K.rb, K.pb, K.ib, K.lb] → x ∉ S := fun {x} hx hm => (hS x hm).2.1 hx;refine ⟨h.bel.trans (hk.below h.lo (fun x hx => (hS x hx).1)), h.nx.keep hk (fun x hx => ⟨(hS x hx).1, fun e => n (x := K.ib) (by simp) (e ▸ hx), fun e => n (x := K.lb) (by simp) (e ▸ hx)⟩), (hk.block _ (hL_ h.res) (n (by simp))).trans h.res, (hk.block _ (hL_ h.prt) (n (by simp))).trans h.prt,
    h.oc.keepS hk (fun g hg hm => (hS g hm).2.2.1 hg), h.ob.keepS hk (fun g hg hm => (hS g hm).2.2.2.1 hg), fun x hx => ?_, h.sp, h.sc, h.sb⟩
  obtain ⟨g, e1, e2, e3⟩ := h.pth x hx;exact ⟨g, e1, e2.keepS hk (fun g' hg hm => by rw [List.mem_singleton.1 hg] at hm; exact (hS g hm).2.2.2.2 x hx e1), e3⟩
theorem MdS.below (h : MdS K W0 chs Ac cc fc bs Ab cb fb w) (hb : Below w.heap.size w w') : MdS K W0 chs Ac cc fc bs Ab cb fb w' := h.away (S := []) (Keep.of_below hb) (by simp)
theorem MdS.next (h : MdS K W0 chs Ac cc fc bs Ab cb fb w) (hn : NxS K.D w' K.ib K.lb) (hk : Keep [K.ib] w w') : MdS K W0 chs Ac cc fc bs Ab cb fb w' := by
  refine ⟨h.bel.trans (hk.below h.lo (fun x hx => by rw [List.mem_singleton.1 hx]; exact hn.lt.2.2.1)), hn, (hk.block _ (hL_ h.res) (by simpa using h.sp.2.2.2.1)).trans h.res, (hk.block _ (hL_ h.prt) (by simpa using h.sp.2.2.2.2.2.1)).trans h.prt,
    h.oc.keepS hk (fun g hg => fun hm => (h.sc g hg).2.1 (by rw [List.mem_singleton.1 hm]; simp)), h.ob.keepS hk (fun g hg hm => (h.sb g hg).2 (by rw [List.mem_singleton.1 hm]; simp)), fun x hx => ?_, h.sp, h.sc, h.sb⟩
  obtain ⟨g, e1, e2, e3, e4, e5⟩ := h.pth x hx;exact ⟨g, e1, e2.keepS hk (fun g' hg hm => by rw [List.mem_singleton.1 hg] at hm; exact e4 (by rw [List.mem_singleton.1 hm]; simp)), e3, e4, e5⟩
theorem MdS.pushC (h : MdS K W0 chs Ac cc fc bs Ab cb fb w) {A : Option Addr} {c g : Nat} {x : Chn} (hk : Keep (K.ib :: K.pb :: fc) w w') (hn : NxS K.D w' K.ib K.lb) (ho : OwnS w' 144 3 A (chs.length + 1) c (chcs chs ++ chc x) [g]) (hg : g ∈ fc ∨ w.heap.size ≤ g)
    (hp : w'.heap[K.pb]? = some (.cells #[.slice A (chs.length + 1) c, .slice Ab bs.length cb, .int .i64 K.tg] 26 (0, 0))) : MdS K W0 (chs ++ [x]) A c [g] bs Ab cb fb w' := by
  have hS : ∀ y ∈ K.ib :: K.pb :: fc, K.D ≤ y := by
    intro y hy;rcases List.mem_cons.1 hy with rfl | hy
    · exact h.nx.lt.2.2.1
    · rcases List.mem_cons.1 hy with rfl | hy
      · exact h.sp.2.1
      · exact (h.sc y hy).1
  have hgA : K.D ≤ g ∧ g ∉ [K.rb, K.pb, K.ib, K.lb] ∧ g ∉ fb ∧ ∀ y ∈ bs, y.A ≠ some ⟨g, 0, none⟩ := by
    rcases hg with e | e
    · refine ⟨(h.sc g e).1, (h.sc g e).2.1, (h.sc g e).2.2, fun y hy e2 => ?_⟩;obtain ⟨g', e3, _, _, _, e4, _⟩ := h.pth y hy;rw [e3] at e2;injection e2 with e2
      injection e2 with e2 _ _
      exact e4 (e2 ▸ e)
    · obtain ⟨a1, a2, a3, a4, a5⟩ := h.fresh e;exact ⟨a1, a2, a4, a5⟩
  refine ⟨h.bel.trans (hk.below h.lo hS), hn, (hk.block _ (hL_ h.res) ?_).trans h.res, by rw [List.length_append]; exact hp, by rw [List.length_append, show chcs (chs ++ [x]) = chcs chs ++ chc x from flat_snoc _ _ _]; exact ho,
    h.ob.keepS hk (fun y hy hm => ?_), fun y hy => ?_, h.sp, fun y hy => ?_, h.sb⟩
  · simp only [List.mem_cons, not_or];exact ⟨h.sp.2.2.2.1, h.sp.2.2.1, fun e => (h.sc _ e).2.1 (by simp)⟩
  · rcases List.mem_cons.1 hm with rfl | hm
    · exact (h.sb _ hy).2 (by simp)
    · rcases List.mem_cons.1 hm with rfl | hm
      · exact (h.sb _ hy).2 (by simp)
      · exact (h.sc y hm).2.2 hy
  · obtain ⟨g', e1, e2, e3, e4, e5, e6⟩ := h.pth y hy;refine ⟨g', e1, e2.keepS hk (fun z hz hm => ?_), e3, e4, ?_, e6⟩
    · rw [List.mem_singleton.1 hz] at hm;rcases List.mem_cons.1 hm with e | hm
      · exact e4 (by rw [e]; simp)
      · rcases List.mem_cons.1 hm with e | hm
        · exact e4 (by rw [e]; simp)
        · exact e5 hm
    · simp only [List.mem_singleton];rintro rfl;exact hgA.2.2.2 y hy e1
  · rw [List.mem_singleton.1 hy];exact ⟨hgA.1, hgA.2.1, hgA.2.2.1⟩
theorem MdS.pushB (h : MdS K W0 chs Ac cc fc bs Ab cb fb w) {A : Option Addr} {c g : Nat} {x : BrX} (hk : Keep (K.pb :: fb) w w') (ho : OwnS w' 53 2 A (bs.length + 1) c (brxs bs ++ brx x) [g]) (hg : g ∈ fb ∨ w.heap.size ≤ g)
    (hp : w'.heap[K.pb]? = some (.cells #[.slice Ac chs.length cc, .slice A (bs.length + 1) c, .int .i64 K.tg] 26 (0, 0)))
    (gp : Nat) (hx : x.A = some ⟨gp, 0, none⟩) (hxo : OwnS w 3 1 x.A x.path.length x.c (ints x.path) [gp]) (haw : Away K fc bs fb gp) : MdS K W0 chs Ac cc fc (bs ++ [x]) A c [g] w' := by
  have hS : ∀ y ∈ K.pb :: fb, K.D ≤ y := by
    intro y hy;rcases List.mem_cons.1 hy with rfl | hy
    · exact h.sp.2.1
    · exact (h.sb y hy).1
  have hgp := hxo.lt gp (by simp);have hgA : K.D ≤ g ∧ g ∉ [K.rb, K.pb, K.ib, K.lb] ∧ g ∉ fc ∧ (∀ y ∈ bs, y.A ≠ some ⟨g, 0, none⟩) ∧ gp ≠ g := by
    rcases hg with e | e
    · refine ⟨(h.sb g e).1, (h.sb g e).2, fun e2 => (h.sc g e2).2.2 e, fun y hy e2 => ?_, fun e2 => haw.2.2.2.1 (e2 ▸ e)⟩;obtain ⟨g', e3, _, _, _, _, e4⟩ := h.pth y hy;rw [e3] at e2;injection e2 with e2
      injection e2 with e2 _ _
      exact e4 (e2 ▸ e)
    · obtain ⟨a1, a2, a3, a4, a5⟩ := h.fresh e;exact ⟨a1, a2, a3, a5, by omega⟩
  have hkp : ∀ {z : Nat}, z ∉ [K.rb, K.pb, K.ib, K.lb] → z ∉ fb → z ∉ K.pb :: fb := fun {z} h1 h2 hm => by
    rcases List.mem_cons.1 hm with rfl | hm
    · exact h1 (by simp)
    · exact h2 hm
  have nb : ∀ z, z ∈ [K.ib, K.lb] → z ∉ K.pb :: fb := fun z hz hm => by
    rcases List.mem_cons.1 hm with rfl | hm
    · have := h.sp; simp at hz; omega
    · exact (h.sb z hm).2 (by simp at hz ⊢; rcases hz with e | e <;> simp [e])
  refine ⟨h.bel.trans (hk.below h.lo hS), h.nx.keep hk (fun z hz => ⟨hS z hz, fun e => nb K.ib (by simp) (e ▸ hz), fun e => nb K.lb (by simp) (e ▸ hz)⟩), (hk.block _ (hL_ h.res) ?_).trans h.res, by rw [List.length_append]; exact hp,
    h.oc.keepS hk (fun z hz => hkp (h.sc z hz).2.1 (h.sc z hz).2.2), by rw [List.length_append, show brxs (bs ++ [x]) = brxs bs ++ brx x from flat_snoc _ _ _]; exact ho, fun y hy => ?_, h.sp, fun z hz => ⟨(h.sc z hz).1, (h.sc z hz).2.1, fun e => ?_⟩, fun z hz => ?_⟩
  · intro hm;rcases List.mem_cons.1 hm with e | hm
    · exact h.sp.2.2.1 e
    · exact (h.sb _ hm).2 (by simp)
  · rcases List.mem_append.1 hy with hy | hy
    · obtain ⟨g', e1, e2, e3, e4, e5, e6⟩ := h.pth y hy;refine ⟨g', e1, e2.keepS hk (fun z hz => by rw [List.mem_singleton.1 hz]; exact hkp e4 e6), e3, e4, e5, ?_⟩;simp only [List.mem_singleton];rintro rfl;exact hgA.2.2.2.1 y hy e1
    · rw [List.mem_singleton.1 hy];exact ⟨gp, hx, hxo.keepS hk (fun z hz => by rw [List.mem_singleton.1 hz]; exact hkp haw.2.1 haw.2.2.2.1), haw.1, haw.2.1, haw.2.2.1, by simpa using hgA.2.2.2.2⟩
  · rw [List.mem_singleton.1 e] at hz; exact hgA.2.2.1 hz
  · rw [List.mem_singleton.1 hz]; exact ⟨hgA.1, hgA.2.1⟩
theorem brxs_get {l : List BrX} {k : Nat} (hk : k < l.length) : (brxs l)[k*2]? = some (.int .i64 l[k].d) ∧ (brxs l)[k*2+1]? = some (.slice l[k].A l[k].path.length l[k].c) :=
  ⟨flat_get (f := brx) (s := 2) (fun _ => rfl) hk (j := 0) (by decide), flat_get (f := brx) (s := 2) (fun _ => rfl) hk (j := 1) (by decide)⟩
theorem MdS.prtB (h : MdS K W0 chs Ac cc fc bs Ab cb fb w) (hk : Keep [K.rb] w w') : PrtB w'.heap.size w' Ac cc Ab cb ⟨chs, bs.map BrX.b, K.tg⟩ := by
  have nil : ∀ {e : TypeId} {s n c : Nat} {A : Option Addr} {xs : List Value} {q : List Nat}, OwnS w' e s A n c xs q → A = none → c = 0 := fun {e s n c A xs q} ho hA => by
    rcases ho.2 with ⟨_, _, h3, _⟩ | ⟨g, cur, e1, _⟩
    · exact h3
    · rw [hA] at e1; cases e1
  have hoc := h.oc.keepS hk (fun g hg hm => (h.sc g hg).2.1 (by rw [List.mem_singleton.1 hm]; simp));have hob := h.ob.keepS hk (fun g hg hm => (h.sb g hg).2 (by rw [List.mem_singleton.1 hm]; simp));refine ⟨RdB.of hoc.rd (Nat.le_refl _), ?_, ⟨hoc.ge, hoc.cap, nil hoc⟩, by rw [List.length_map]; exact ⟨hob.ge, hob.cap, nil hob⟩⟩;intro k hk';simp only [List.length_map] at hk';obtain ⟨b, off, e, hb, hc⟩ := hob.rd.2 (by omega);obtain ⟨g1, g2⟩ := brxs_get hk';obtain ⟨g, e1, e2, _, e3, _⟩ := h.pth bs[k] (List.getElem_mem _);have e2 := e2.keepS hk (fun z hz hm => by rw [List.mem_singleton.1 hz] at hm; exact e3 (by rw [List.mem_singleton.1 hm]; simp));refine ⟨b, off, bs[k].A, bs[k].c, e, hb, ?_, ?_, ?_⟩
  · rw [hc _ _ g1]; simp [BrX.b]
  · rw [Nat.add_assoc, hc _ _ g2]; simp [BrX.b]
  · simp only [List.getElem_map, BrX.b];exact ⟨RdB.of e2.rd (Nat.le_refl _), e2.ge, e2.cap, nil e2⟩
end
end Go.Proofs.Ythmldeningpjbaa
