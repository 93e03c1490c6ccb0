import Derived.Test.YthmldeningpjbaaPLp12
import Derived.Test.YthmldeningpjbaaPLp5
import Derived.Test.YthmldeningpjbaaPLp11
import Derived.Deep.DeepCutAuto
import Derived.Test.YthmldeningpjbaaPLp0
import Derived.Test.YthmldeningpjbaaPLp4
set_option linter.unusedVariables false
set_option linter.unusedSimpArgs false
set_option maxRecDepth 100000
set_option maxHeartbeats 40000000
namespace Go.Proofs.Ythmldeningpjbaa
open Go Go.RowKit Sp Pt
def CpoV (ob n1 n2 cc cb : Nat) (Ac Ab : Option Addr) (s : Cl2S) : Nat → Value → Prop
  | 0, v => v = .pointer (some ⟨ob, 0, none⟩)
  | 1, v => v = .slice Ac n1 cc
  | 2, v => v = .slice s.A1 n1 s.c1
  | 3, v => v = .pointer (some ⟨ob, 1, none⟩)
  | 4, v => v = .slice Ab n2 cb
  | 5, v => v = .slice s.A2 n2 s.c2
  | 6, v => v = .pointer (some ⟨ob, 0, none⟩)
  | 8, v => v = .pointer (some ⟨ob, 1, none⟩)
  | _, _ => True
structure CpS where
  A : Option Addr
  c : Nat
def CpbV (W0 : World) (R : List Nat) (rb ob ab n cb k m ck : Nat) (Ak : Option Addr) (path : List Int) (xs : List Value) (s : CpS) : Nat → Value → Prop
  | 0, v => v = .pointer (some ⟨ob, 1, none⟩)
  | 1, v => v = .slice (some ⟨ab, 0, none⟩) n cb
  | 2, v => v = .int .i64 k
  | 3, v => v = .pointer (some ⟨ob, 1, none⟩)
  | 4, v => v = .slice (some ⟨ab, 0, none⟩) n cb
  | 5, v => v = .int .i64 k
  | 6, v => v = .pointer (some ⟨ab, k * 2, none⟩)
  | 7, v => v = .pointer (some ⟨ab, k * 2 + 1, none⟩)
  | 8, v => v = .slice Ak m ck
  | 9, v => v = .slice s.A m s.c
  | 10, v => v = .pointer (some ⟨ab, k * 2, none⟩)
  | 11, v => v = .pointer (some ⟨ab, k * 2 + 1, none⟩)
  | _, _ => True
def CpbW (W0 : World) (R : List Nat) (rb ob ab n cb k m ck : Nat) (Ak : Option Addr) (path : List Int) (xs : List Value) (s : CpS) (l : Nat → Bool) (w : World) : Prop := Keep [ab] W0 w ∧ (l 9 = true → PathN (rb :: ab :: R) w s.A s.c path) ∧ OwnS w 53 2 (some ⟨ab, 0, none⟩) n cb (if l 12 then xs.set (k * 2 + 1) (.slice s.A m s.c) else xs) [ab]
def OwnPrt (w : World) (p : Prt) (e : Ending) (w' : World) : Prop := ∃ Ac cc Ab cb q1 q2 L, e = .returned (.agg (prtV Ac cc Ab cb p)) ∧ OwnS w' 144 3 Ac p.chs.length cc (chcs p.chs) q1 ∧ OwnS w' 53 2 Ab p.bts.length cb (brcs L) q2 ∧ L.map (·.b) = p.bts ∧ PathsN (q2 ++ List.range w.heap.size) w' L ∧
  (∀ x ∈ q1, w.heap.size ≤ x) ∧ (∀ x ∈ q2, w.heap.size ≤ x) ∧ (∀ x ∈ q1, x ∉ q2) ∧ Below w.heap.size w w'
theorem OwnPrt.new {w w' : World} {p : Prt} {e : Ending} (h : OwnPrt w p e w') : NewPrt w p e w' := by
  obtain ⟨Ac, cc, Ab, cb, q1, q2, L, h1, h2, h3, h4, h5, h6, h7, h8, h9⟩ := h;exact ⟨Ac, cc, Ab, cb, newQ w w', h1, prtH_new h2 h3 h4 (h5.keep (Keep.refl [] _) (by simp) (fun x hx => .inl (by simp at hx; simp [hx]))) h6 h7, fun x hx => (mem_newQ.1 hx).1, h9⟩
theorem copyPort_own (D : Nat) (Ac : Option Addr) (cc : Nat) (Ab : Option Addr) (cb : Nat) (p : Prt) (w : World) (hp : PrtB D w Ac cc Ab cb p) (hD : D ≤ w.heap.size) (hl : p.chs.length ≤ 1000) (hs : p.bts.length ≤ 1000) (hpl : ∀ b ∈ p.bts, b.path.length ≤ 1000) :
    Calls Try.prog 31 #[.agg (prtV Ac cc Ab cb p)] w (OwnPrt w p) := by
  obtain ⟨L0, hL0, hrows, hpaths⟩ := hp.bts.rows;have hL0l : L0.length = p.bts.length := by rw [← hL0]; simp
  obtain ⟨W, hW⟩ : ∃ W, W = (w.alloc (.cells (prtV Ac cc Ab cb p) 26)).alloc (.cells #[.slice none 0 0, .slice none 0 0, .int .i64 0] 26) := ⟨_, rfl⟩;obtain ⟨ob, hob⟩ : ∃ b, b = w.heap.size := ⟨_, rfl⟩;obtain ⟨rb, hrb⟩ : ∃ b, b = w.heap.size + 1 := ⟨_, rfl⟩;have O0 : Own w.heap.size w [.blk ob (.cells (prtV Ac cc Ab cb p) 26), .blk rb (.cells #[.slice none 0 0, .slice none 0 0, .int .i64 0] 26)] W := by
    have h := ((Own.start w).alloc (.cells (prtV Ac cc Ab cb p) 26)).alloc (.cells #[.slice none 0 0, .slice none 0 0, .int .i64 0] 26);rw [hW, hob, hrb];simpa using h
  have b0 := O0.bel;have h1 := O0.heap 0 rfl;obtain ⟨n1, hn1⟩ : ∃ n, n = p.chs.length := ⟨_, rfl⟩;obtain ⟨n2, hn2⟩ : ∃ n, n = p.bts.length := ⟨_, rfl⟩;obtain ⟨h, hh⟩ : ∃ h, h = p.tugs := ⟨_, rfl⟩;have C1 := fun wx (hk : Keep [ob] W wx) => cloneChn_any Ac n1 cc (chcs p.chs) wx (by have bw := b0.trans (hk.below b0.size (by simp [hob])); rw [hn1]; exact (hp.chs.below (bw.mono hD)).rd (by have := bw.size; omega)) (by intro u hu; obtain ⟨x, _, hx⟩ := List.mem_flatMap.1 hu; simp [chc] at hx; rcases hx with rfl | rfl | rfl <;> rfl) (fun e => ⟨by have := hp.c1.2.2 e; have := hp.c1.1; omega, hp.c1.2.2 e⟩) (by omega);have C2 := fun wx (hk : Keep [ob] W wx) => cloneBrt_any Ab n2 cb (brcs L0) wx (by have bw := b0.trans (hk.below b0.size (by simp [hob])); rw [hn2]; exact (hrows.below (bw.mono hD)).rd (by have := bw.size; omega)) (brcs_one L0) (fun e => ⟨by have := hp.c2.2.2 e; have := hp.c2.1; omega, hp.c2.2.2 e⟩) (by omega);have HC := Lib.hid (And.intro C1 C2);have hx : W.heap[ob]? = some (.cells #[.slice Ac n1 cc, .slice Ab n2 cb, .int .i64 h] 26 (0, 0)) := by rw [hn1, hn2, hh]; exact h1
  have HX := Lib.hid hx;have hne : rb ≠ ob := by omega
  have zo := hL_ h1;have HO := Lib.hid (And.intro O0 (And.intro hob (And.intro hrb (And.intro hn1 (And.intro hn2 hh)))));have HL := Lib.hid (And.intro hL0 (And.intro hL0l (And.intro hpl (And.intro hpaths (And.intro hs hD)))));simp only [prtV];rw [← hn1, ← hn2, ← hh];have hs2 : n2 ≤ 1000 := by omega
  clear C1 C2 h1 hx hp b0 hl hs hL0 hL0l hpl hpaths hrows hD
  go_enter Try.func31, Try.ntmps31
  go_upto_region 1 with fail
  rw [← hW, ← hrb, ← hob];clear hW hob hrb hn1 hn2 hh;refine wRS (σ := Cl2S) (by kernel_rfl) (by kernel_rfl) (fun sg jx vx _ => CpoV ob n1 n2 cc cb Ac Ab sg jx vx) (fun sg ly wx => Cl2W ⟨144, 3, n1, chcs p.chs, 53, 2, n2, brcs L0, ob, 26⟩ 2 5 (fun s l => #[if l 7 then .slice s.A1 n1 s.c1 else .slice Ac n1 cc, if l 9 then .slice s.A2 n2 s.c2 else .slice Ab n2 cb, .int .i64 h]) W sg ly wx) ⟨none, 0, [], none, 0, []⟩ ?_ ?_ ?_
  · exact Cl2W.start HX.out
  · simp only [AllFrom, Nat.zero_add, Nat.reduceAdd];refine ⟨?_, ?_, ?_, ?_, ?_, ?_, ?_, ?_, ?_, ?_, trivial⟩
    · refine sP_ fun sg ly a wr hl hd hW hF => ?_;have et1 := hF.old 1 (by kernel_rfl);simp [Act.eval] at et1;exact ⟨hW.other 0 (by decide) (by decide) (by simp [upd]), .pointer (some ⟨ob, 0, none⟩), by go_simp, rfl⟩
    · refine sP_ fun sg ly a wr hl hd hW hF => ?_;simp [Region.binds] at hd;have et4 := hF.new 0 4 (by simp [hd]) rfl;simp [CpoV, Act.eval] at et4;have n7 := hF.notYet 1 7 hl (by kernel_rfl);have hh := hW.hob;have cL := (cOH hh 0).trans rfl;try simp only [n7, if_false, Bool.false_eq_true] at cL
      have zL := hL_ hh;exact ⟨hW.other 1 (by decide) (by decide) (by simp [upd]), .slice Ac n1 cc, by go_simp, rfl⟩
    · refine sC_ fun sg ly a wr hl hd hW hF => ?_;simp [Region.binds] at hd;have et5 := hF.new 1 5 (by simp [hd]) rfl;simp [CpoV, Act.eval] at et5;have n7 := hF.notYet 2 7 hl (by kernel_rfl);refine ⟨85, #[.slice Ac n1 cc], by go_simp, ?_⟩;refine (HC.out.1 wr hW.kp).mono ?_;rintro e w2 ⟨A', c', q, rfl, h1, h2, h3⟩;refine ⟨_, { sg with A1 := A', c1 := c', q1 := q }, rfl, hW.call1 (by decide) h1 h2 h3 (by simp [upd, n7]), rfl, ?_⟩;intro i u hi h;have i2 : i ≠ 2 := by rintro rfl; rw [hl] at hi; cases hi
      have i7 : i ≠ 7 := by rintro rfl; rw [n7] at hi; cases hi
      unfold CpoV at h ⊢;split at h <;> first | exact h | exact absurd rfl i2 | exact absurd rfl i7
    · refine sP_ fun sg ly a wr hl hd hW hF => ?_;have et1 := hF.old 1 (by kernel_rfl);simp [Act.eval] at et1;exact ⟨hW.other 3 (by decide) (by decide) (by simp [upd]), .pointer (some ⟨ob, 1, none⟩), by go_simp, rfl⟩
    · refine sP_ fun sg ly a wr hl hd hW hF => ?_;simp [Region.binds] at hd;have et7 := hF.new 3 7 (by simp [hd]) rfl;simp [CpoV, Act.eval] at et7;have n9 := hF.notYet 4 9 hl (by kernel_rfl);have hh := hW.hob;have cL := (cOH hh 1).trans rfl;try simp only [n9, if_false, Bool.false_eq_true] at cL
      have zL := hL_ hh;exact ⟨hW.other 4 (by decide) (by decide) (by simp [upd]), .slice Ab n2 cb, by go_simp, rfl⟩
    · refine sC_ fun sg ly a wr hl hd hW hF => ?_;simp [Region.binds] at hd;have et8 := hF.new 4 8 (by simp [hd]) rfl;simp [CpoV, Act.eval] at et8;have n9 := hF.notYet 5 9 hl (by kernel_rfl);refine ⟨86, #[.slice Ab n2 cb], by go_simp, ?_⟩;refine (HC.out.2 wr hW.kp).mono ?_;rintro e w2 ⟨A', c', q, rfl, h1, h2, h3⟩;refine ⟨_, { sg with A2 := A', c2 := c', q2 := q }, rfl, hW.call2 (by decide) h1 h2 h3 (by simp [upd, n9]), rfl, ?_⟩;intro i u hi h;have i5 : i ≠ 5 := by rintro rfl; rw [hl] at hi; cases hi
      have i9 : i ≠ 9 := by rintro rfl; rw [n9] at hi; cases hi
      unfold CpoV at h ⊢;split at h <;> first | exact h | exact absurd rfl i5 | exact absurd rfl i9
    · refine sP_ fun sg ly a wr hl hd hW hF => ?_;have et1 := hF.old 1 (by kernel_rfl);simp [Act.eval] at et1;exact ⟨hW.other 6 (by decide) (by decide) (by simp [upd]), .pointer (some ⟨ob, 0, none⟩), by go_simp, rfl⟩
    · refine sS_ rfl fun sg ly a wx hl hd hW hF => ?_;simp [Region.binds] at hd;have et10 := hF.new 6 10 (by simp [hd]) rfl;simp [CpoV, Act.eval] at et10;have et6 := hF.new 2 6 (by simp [hd]) rfl;simp [CpoV, Act.eval] at et6;have y2 : ly 2 = true := by simp [hd]
      have hh := hW.hob;have cL0 := (cOH hh 0).trans rfl;have fL0 := fOH hh 0;have zL := hL_ hh;exact ⟨(wx.setCell ⟨ob, 0, none⟩ (.slice sg.A1 n1 sg.c1)), sg, .skip, by go_simp, .inl rfl, hW.put 7 (by decide) (by decide) ((Keep.refl _ _).setCell (.inl (by simp)) _) ((hS_ (hh) 0 _).trans (by simp [upd, hl])), fun _ _ _ h => h⟩
    · refine sP_ fun sg ly a wr hl hd hW hF => ?_;have et1 := hF.old 1 (by kernel_rfl);simp [Act.eval] at et1;exact ⟨hW.other 8 (by decide) (by decide) (by simp [upd]), .pointer (some ⟨ob, 1, none⟩), by go_simp, rfl⟩
    · refine sS_ rfl fun sg ly a wx hl hd hW hF => ?_;simp [Region.binds] at hd;have et11 := hF.new 8 11 (by simp [hd]) rfl;simp [CpoV, Act.eval] at et11;have et9 := hF.new 5 9 (by simp [hd]) rfl;simp [CpoV, Act.eval] at et9;have y5 : ly 5 = true := by simp [hd]
      have hh := hW.hob;have cL1 := (cOH hh 1).trans rfl;have fL1 := fOH hh 1;have zL := hL_ hh;exact ⟨(wx.setCell ⟨ob, 1, none⟩ (.slice sg.A2 n2 sg.c2)), sg, .skip, by go_simp, .inl rfl, hW.put 9 (by decide) (by decide) ((Keep.refl _ _).setCell (.inl (by simp)) _) ((hS_ (hh) 1 _).trans (by simp [upd, hl])), fun _ _ _ h => h⟩
  intro s1 af w4 hWW hF;obtain ⟨ff, hf, rfl⟩ := hF.lit;obtain ⟨o1, o1'⟩ := hWW.a1 rfl;obtain ⟨o2, o2'⟩ := hWW.a2 rfl;have hob4 := hWW.hob;have hdj := hWW.dj rfl rfl;simp only [List.length_cons, List.length_nil, Nat.reduceAdd, Nat.reduceLT, decide_true, if_true] at hob4;obtain ⟨A1, c1, q1, A2, c2, q2⟩ := s1;simp only at o1 o2 o1' o2' hob4 hdj;have O4 : Own w.heap.size w [.blk ob (.cells #[.slice A1 n1 c1, .slice A2 n2 c2, .int .i64 h] 26), .blk rb (.cells #[.slice none 0 0, .slice none 0 0, .int .i64 0] 26), .own 144 3 A1 n1 c1 (chcs p.chs) q1, .own 53 2 A2 n2 c2 (brcs L0) q2] w4 := by
    have zW := HO.out.1.lt 0 rfl (x := ob) (by simp [It.fp]);have zR := HO.out.1.lt 1 rfl (x := rb) (by simp [It.fp]);have hlo := HO.out.1.lo;have a := (HO.out.1.set 0 rfl (hWW.kp) hob4);have b := a.add (i := .own 144 3 A1 n1 c1 (chcs p.chs) q1) o1 (fun x hx => by have := o1' x hx; omega) (by intro j hj x hx hm; have := o1' x hx; simp at hj; rcases hj with rfl | rfl <;> simp [It.fp] at hm <;> omega);have d := b.add (i := .own 53 2 A2 n2 c2 (brcs L0) q2) o2 (fun x hx => by have := o2' x hx; omega) (by
      intro j hj x hx hm; have := o2' x hx; simp at hj; rcases hj with rfl | rfl | rfl
      · simp [It.fp] at hm; omega
      · simp [It.fp] at hm; omega
      · exact hdj x hm hx)
    exact d
  have P4 : PathsN (rb :: q2) w4 L0 := fun y hy => PathN.of_pathB ((HL.out.2.2.2.1 y hy).below (O4.bel.mono HL.out.2.2.2.2.2)) (by have := O4.lo; have := HL.out.2.2.2.2.2; omega) (fun x hx => by have h3 := HL.out.2.2.2.2.2; rcases List.mem_cons.1 hx with e | e; (have := O4.ge 1 rfl (x := rb) (by simp [It.fp]); omega); (have := O4.ge 3 rfl (x := x) e; omega));have q0 := (cOH (O4.heap 0 rfl) 1).trans rfl;have zo4 := hL_ (O4.heap 0 rfl);have H4 := Lib.hid (And.intro O4 P4);clear hf hF hWW o1 o2 o1' o2' hob4 hdj O4 P4;simp only [List.filterMap, List.foldl, List.setIfInBounds_toArray, List.set_cons_succ, List.set_cons_zero];go_wp2_with fail
  clear q0 zo4
  go_loopg [15] (n2) (fun g i wr => ∃ (k : Nat) (L : List BrR), g + k = n2 ∧ i = .int .i64 k ∧ L.map (·.b) = p.bts ∧ PathsN (rb :: q2) wr L ∧ PathsN (rb :: (q2 ++ List.range w.heap.size)) wr (L.take k) ∧
    Own w.heap.size w [.blk ob (.cells #[.slice A1 n1 c1, .slice A2 n2 c2, .int .i64 h] 26), .blk rb (.cells #[.slice none 0 0, .slice none 0 0, .int .i64 0] 26), .own 144 3 A1 n1 c1 (chcs p.chs) q1, .own 53 2 A2 n2 c2 (brcs L) q2] wr)
  case atStart => exact ⟨0, L0, rfl, rfl, HL.out.1, H4.out.2, fun y hy => absurd hy (by simp), H4.out.1⟩
  case round =>
    obtain ⟨k, L, hk, rfl, hLb, hP, hPn, hO⟩ := hrel;have hLl : L.length = n2 := by have := congrArg List.length hLb; simp at this; rw [this]; exact HO.out.2.2.2.2.1.symm
    by_cases hlt : k < n2
    · obtain ⟨g, rfl, rfl, zg, hcell, hfz⟩ := (hO.owns 3 rfl).some_ (by omega);obtain ⟨W0, hW0⟩ : ∃ W0, W0 = wr := ⟨_, rfl⟩;subst hW0;obtain ⟨b0, b1⟩ := brcs_get (l := L) (k := k) (by omega);obtain ⟨y, hy⟩ : ∃ y, y = L[k] := ⟨_, rfl⟩;rw [← hy] at b0 b1;have hyb : y.b ∈ p.bts := by rw [← hLb, hy]; exact List.mem_map.2 ⟨_, List.getElem_mem _, rfl⟩
      have hpy : PathN [rb, g] W0 y.A y.c y.b.path := hP y (by rw [hy]; exact List.getElem_mem _);have hml := HL.out.2.2.1 _ hyb;obtain ⟨⟨d0, path⟩, Ak, ck⟩ := y;simp only at b0 b1 hpy hml;obtain ⟨m, hm⟩ : ∃ m, m = path.length := ⟨_, rfl⟩;rw [← hm] at b1 hml;have zrr := hL_ (hO.heap 1 rfl);have CI : ∀ wx, Keep [g] W0 wx → Calls Try.prog 87 #[.slice Ak m ck] wx fun e w' => ∃ A1 c1, e = .returned (.slice A1 m c1) ∧ PathN (rb :: g :: List.range w.heap.size) w' A1 c1 path ∧ Below wx.heap.size wx w' := by
        intro wx hk;rw [hm];refine (copyIntsO_any Ak ck path wx (hpy.keep hk (S' := [rb, g]) (by simp) (fun x hx => .inl hx)).rd (by omega)).mono ?_;rintro e w' ⟨A1, c1, q, rfl, h1, h2, h3⟩;exact ⟨A1, c1, rfl, PathN.of_ownA h1 (fun x hx => by have := h2 x hx; have := hk.size; have := zrr; have := hO.bel.size; simp; omega), h3⟩
      have h1 := (cOH (hO.heap 0 rfl) 1).trans rfl;have hgo : ob ≠ g := hO.ne 0 3 rfl rfl (by decide) (by simp [It.fp]) (by simp [It.fp]);have HY := Lib.hid (And.intro h1 (And.intro hgo (And.intro b1 CI)));have ho3 := hO.owns 3 rfl;have HY2 : Hid (OwnS W0 53 2 (some ⟨g, 0, none⟩) n2 c2 (brcs L) [g]) := Lib.hid ho3;have HPN := Lib.hid hPn;have HS := Lib.hid (And.intro hP (And.intro hO (And.intro hLb (And.intro hLl (And.intro hy hm)))));have hkI : (k : Int) < (n2 : Int) := by omega
      have zo := hL_ (hO.heap 0 rfl);clear hPn hO hP hLb hy hyb hpy b0 b1 CI hcell hfz h1 ho3 hm;go_upto_region 5 with fail
      refine wRS (σ := CpS) (by kernel_rfl) (by kernel_rfl) (fun sg jx vx _ => CpbV W0 (List.range w.heap.size) rb ob g n2 c2 k m ck Ak path (brcs L) sg jx vx) (fun sg ly wx => CpbW W0 (List.range w.heap.size) rb ob g n2 c2 k m ck Ak path (brcs L) sg ly wx) ⟨none, 0⟩ ?_ ?_ ?_
      · exact ⟨(Keep.refl _ _).drew, fun h => absurd h (by simp), HY2.out⟩
      · simp only [AllFrom, Nat.zero_add, Nat.reduceAdd];refine ⟨?_, ?_, ?_, ?_, ?_, ?_, ?_, ?_, ?_, ?_, ?_, ?_, ?_, trivial⟩
        · refine sP_ fun sg ly a wr hl hd hW hF => ?_;have et1 := hF.old 1 (by kernel_rfl);simp [Act.eval] at et1;exact ⟨by simpa [CpbW, upd] using hW, .pointer (some ⟨ob, 1, none⟩), by go_simp, rfl⟩
        · refine sP_ fun sg ly a wr hl hd hW hF => ?_;simp [Region.binds] at hd;have et18 := hF.new 0 18 (by simp [hd]) rfl;simp [CpbV, Act.eval] at et18;have c0 := hW.1.cell HY.out.1 (by simpa using HY.out.2.1);exact ⟨by simpa [CpbW, upd] using hW, _, by go_simp, rfl⟩
        · refine sP_ fun sg ly a wr hl hd hW hF => ?_;have et3 := hF.old 3 (by kernel_rfl);simp [Act.eval] at et3;exact ⟨by simpa [CpbW, upd] using hW, .int .i64 k, by go_simp, rfl⟩
        · refine sP_ fun sg ly a wr hl hd hW hF => ?_;have et1 := hF.old 1 (by kernel_rfl);simp [Act.eval] at et1;exact ⟨by simpa [CpbW, upd] using hW, .pointer (some ⟨ob, 1, none⟩), by go_simp, rfl⟩
        · refine sP_ fun sg ly a wr hl hd hW hF => ?_;simp [Region.binds] at hd;have et21 := hF.new 3 21 (by simp [hd]) rfl;simp [CpbV, Act.eval] at et21;have c0 := hW.1.cell HY.out.1 (by simpa using HY.out.2.1);exact ⟨by simpa [CpbW, upd] using hW, _, by go_simp, rfl⟩
        · refine sP_ fun sg ly a wr hl hd hW hF => ?_;have et3 := hF.old 3 (by kernel_rfl);simp [Act.eval] at et3;exact ⟨by simpa [CpbW, upd] using hW, .int .i64 k, by go_simp, rfl⟩
        · refine sP_ fun sg ly a wr hl hd hW hF => ?_;simp [Region.binds] at hd;have et22 := hF.new 4 22 (by simp [hd]) rfl;simp [CpbV, Act.eval] at et22;have et23 := hF.new 5 23 (by simp [hd]) rfl;simp [CpbV, Act.eval] at et23;exact ⟨by simpa [CpbW, upd] using hW, .pointer (some ⟨g, k * 2, none⟩), by go_simp, rfl⟩
        · refine sP_ fun sg ly a wr hl hd hW hF => ?_;simp [Region.binds] at hd;have et24 := hF.new 6 24 (by simp [hd]) rfl;simp [CpbV, Act.eval] at et24;exact ⟨by simpa [CpbW, upd] using hW, .pointer (some ⟨g, k * 2 + 1, none⟩), by go_simp, rfl⟩
        · refine sP_ fun sg ly a wr hl hd hW hF => ?_;simp [Region.binds] at hd;have et25 := hF.new 7 25 (by simp [hd]) rfl;simp [CpbV, Act.eval] at et25;have n12_9 := hF.notYet 8 9 hl (by kernel_rfl);have n12 := hF.notYet 9 12 n12_9 (by kernel_rfl);have ho := hW.2.2;rw [if_neg (by simp [n12])] at ho;obtain ⟨g', e', _, zz, hcell, _⟩ := ho.some_ (by omega);injection e' with e'
          injection e' with e' _ _
          subst e';have c0 := hcell _ _ HY.out.2.2.1;exact ⟨by simpa [CpbW, upd] using hW, .slice Ak m ck, by go_simp, rfl⟩
        · refine sC_ fun sg ly a wr hl hd hW hF => ?_;simp [Region.binds] at hd;have et26 := hF.new 8 26 (by simp [hd]) rfl;simp [CpbV, Act.eval] at et26;have n12 := hF.notYet 9 12 hl (by kernel_rfl);refine ⟨87, #[.slice Ak m ck], by go_simp, ?_⟩;refine (HY.out.2.2.2 wr hW.1).mono ?_;rintro e w2 ⟨A', c', rfl, hp, hb⟩;have ho := hW.2.2;rw [if_neg (by simp [n12])] at ho;refine ⟨_, ⟨A', c'⟩, rfl, ⟨hW.1.trans (Keep.of_below (S := []) hb) (by simp), fun _ => hp, by rw [if_neg (by simp [upd, n12])]; exact ho.keepS (Keep.of_below (S := []) hb) (by simp)⟩, rfl, ?_⟩;intro i u hi h;have i9 : i ≠ 9 := by rintro rfl; rw [hl] at hi; cases hi
          unfold CpbV at h ⊢;split at h <;> first | exact h | exact absurd rfl i9
        · refine sP_ fun sg ly a wr hl hd hW hF => ?_;simp [Region.binds] at hd;have et19 := hF.new 1 19 (by simp [hd]) rfl;simp [CpbV, Act.eval] at et19;have et20 := hF.new 2 20 (by simp [hd]) rfl;simp [CpbV, Act.eval] at et20;exact ⟨by simpa [CpbW, upd] using hW, .pointer (some ⟨g, k * 2, none⟩), by go_simp, rfl⟩
        · refine sP_ fun sg ly a wr hl hd hW hF => ?_;simp [Region.binds] at hd;have et28 := hF.new 10 28 (by simp [hd]) rfl;simp [CpbV, Act.eval] at et28;exact ⟨by simpa [CpbW, upd] using hW, .pointer (some ⟨g, k * 2 + 1, none⟩), by go_simp, rfl⟩
        · refine sS_ rfl fun sg ly a wr hl hd hW hF => ?_;simp [Region.binds] at hd;have et29 := hF.new 11 29 (by simp [hd]) rfl;simp [CpbV, Act.eval] at et29;have et27 := hF.new 9 27 (by simp [hd]) rfl;simp [CpbV, Act.eval] at et27;have y9 : ly 9 = true := by simp [hd]
          have ho := hW.2.2;rw [if_neg (by simp [hl])] at ho;obtain ⟨g', e', _, zz, hcell, hfz⟩ := ho.some_ (by omega);injection e' with e'
          injection e' with e' _ _
          subst e';have c0 := hcell _ _ HY.out.2.2.1;have f0 := hfz (k * 2 + 1);have hk : Keep [g] wr (wr.setCell ⟨g, k * 2 + 1, none⟩ (.slice sg.A m sg.c)) := (Keep.refl _ _).setCell (.inl (by simp)) _;exact ⟨_, sg, .skip, by go_simp, .inl rfl, ⟨hW.1.setCell (.inl (by simp)) _, fun h => (hW.2.1 y9).keep hk (by simp) (fun x hx => .inl hx), by rw [if_pos (by simp [upd])]; exact ho.set_ _ _⟩, fun _ _ _ h => h⟩
      intro sg af w5 hWW hF;obtain ⟨ff, hf, rfl⟩ := hF.lit;obtain ⟨k5, p5, o5⟩ := hWW;have p5' := p5 rfl;simp only [List.length_cons, List.length_nil, Nat.reduceAdd, Nat.reduceLT, decide_true, if_true] at o5;obtain ⟨hP, hO, hLb, hLl, hy, hm⟩ := HS.out;have e1 : (brcs L).set (k * 2 + 1) (.slice sg.A m sg.c) = brcs (L.set k ⟨(L[k]'(by omega)).b, sg.A, sg.c⟩) := by
        have e := brcs_set (L := L) (k := k) (by omega) sg.A sg.c;rw [← hy] at e;simp only at e;rw [← hy, e, hm]
      have hN := And.intro (hO.upd 3 rfl k5 (i' := .own 53 2 (some ⟨g, 0, none⟩) n2 c2 (brcs (L.set k ⟨(L[k]'(by omega)).b, sg.A, sg.c⟩)) [g]) (by show OwnS _ _ _ _ _ _ _ _; rw [← e1]; exact o5) (fun x hx => .inl hx)) (And.intro (show PathsN [rb, g] w5 (L.set k ⟨(L[k]'(by omega)).b, sg.A, sg.c⟩) from (hP.keep k5 (by simp) (fun x hx => .inl hx)).set (by have e3 : (L[k]'(by omega)).b.path = path := (by rw [← hy]); simp only [e3]; exact p5'.keep (Keep.refl [] _) (by simp) (fun x hx => .inl (by simp at hx; rcases hx with rfl | rfl <;> simp)))) (show (L.set k ⟨(L[k]'(by omega)).b, sg.A, sg.c⟩).map (·.b) = p.bts from by rw [map_set_b (by omega)]; exact hLb));have HN := Lib.hid hN;have hPn5 : PathsN (rb :: ([g] ++ List.range w.heap.size)) w5 ((L.set k ⟨(L[k]'(by omega)).b, sg.A, sg.c⟩).take (k + 1)) := by
        rw [List.take_succ_eq_append_getElem (by rw [List.length_set]; omega), List.take_set_of_le (Nat.le_refl _)];refine ((HPN.out).keep k5 (by intro x hx; rw [List.mem_singleton.1 hx]; simp) (fun x hx => .inl hx)).snoc ?_;have e3 : (L[k]'(by omega)).b.path = path := (by rw [← hy]);simp only [List.getElem_set_self, e3];exact p5'
      have HN5 := Lib.hid hPn5;clear hf hF p5 p5' o5 hP hO hLb hy hm e1 hN k5 hPn5;simp only [List.filterMap, List.foldl, List.setIfInBounds_toArray, List.set_cons_succ, List.set_cons_zero];go_wp2_with fail
      go_roundg (gk - 1);case measure => omega
      case rel => exact ⟨k + 1, _, by omega, by go_num, HN.out.2.2, HN.out.2.1, HN5.out, HN.out.1⟩
    · obtain rfl : k = n2 := by omega
      have hob4 := hO.heap 0 rfl;have hr4 := hO.heap 1 rfl;have q0 := (cOH hob4 0).trans rfl;have q1' := (cOH hob4 1).trans rfl;have q2' := (cOH hob4 2).trans rfl;have f0 := fOH hr4 0;have f1 := fOH hr4 1;have f2 := fOH hr4 2;have r0 := (cOH hr4 0).trans rfl;have r1 := (cOH hr4 1).trans rfl;have r2 := (cOH hr4 2).trans rfl;have zo4 := hL_ hob4;have zr4 := hL_ hr4;rw [List.take_of_length_le (by omega)] at hPn;have H5 := Lib.hid (And.intro hO (And.intro hPn (And.intro hLb hr4)));clear hO hP hPn hLb hob4 hr4;go_wp2_with fail
      obtain ⟨hO, hP, hLb, hr4⟩ := H5.out;have ew := hS_ (hS_ (hS_ hr4 0 (.slice A1 n1 c1)) 1 (.slice A2 k c2)) 2 (.int .i64 h);have y0 := (cOH ew 0).trans rfl;have y1 := (cOH ew 1).trans rfl;have y2 := (cOH ew 2).trans rfl;obtain ⟨-, -, -, hn1, hn2, hh⟩ := HO.out;have kr : Keep [rb] wr (((wr.setCell ⟨rb, 0, none⟩ (.slice A1 n1 c1)).setCell ⟨rb, 1, none⟩ (.slice A2 k c2)).setCell ⟨rb, 2, none⟩ (.int .i64 h)) := (((Keep.refl _ _).setCell (.inl (by simp)) _).setCell (.inl (by simp)) _).setCell (.inl (by simp)) _;have hset := hO.set 1 rfl kr ew;refine bodyPost_ret (v := .agg #[.slice A1 n1 c1, .slice A2 k c2, .int .i64 h]) (by simp [results, Try.results31, go_sem, y0, y1, y2]) rfl ?_;have hlo := HO.out.1.lo;have hD1 : w.heap.size ≤ rb := hO.ge 1 rfl (by simp [It.fp]);exact ⟨A1, c1, A2, c2, q1, q2, L, by first | rfl | (simp only [prtV]; rw [← hn1, ← hn2, ← hh]), by rw [← hn1]; exact hset.owns 2 rfl, by rw [← hn2]; exact hset.owns 3 rfl, hLb, hP.keep kr (fun x hx => .inl (by rw [List.mem_singleton.1 hx]; simp)) (fun x hx => .inl (by simp only [List.mem_cons]; exact .inr hx)), fun x hx => hO.ge 2 rfl (x := x) hx, fun x hx => hO.ge 3 rfl (x := x) hx, fun x hx hm => hO.dis 2 3 _ _ rfl rfl (by decide) x (by simpa [It.fp] using hx) (by simpa [It.fp] using hm), hset.bel⟩
theorem copyPort_any (D : Nat) (Ac : Option Addr) (cc : Nat) (Ab : Option Addr) (cb : Nat) (p : Prt) (w : World) (hp : PrtB D w Ac cc Ab cb p) (hD : D ≤ w.heap.size) (hl : p.chs.length ≤ 1000) (hs : p.bts.length ≤ 1000) (hpl : ∀ b ∈ p.bts, b.path.length ≤ 1000) :
    Calls Try.prog 31 #[.agg (prtV Ac cc Ab cb p)] w (NewPrt w p) := (copyPort_own D Ac cc Ab cb p w hp hD hl hs hpl).mono fun _ _ h => h.new
def CppV (ob n1 n2 cl cs : Nat) (Al As : Option Addr) (s : Cl2S) : Nat → Value → Prop
  | 0, v => v = .pointer (some ⟨ob, 1, none⟩)
  | 1, v => v = .slice Al n1 cl
  | 2, v => v = .slice s.A1 n1 s.c1
  | 3, v => v = .pointer (some ⟨ob, 2, none⟩)
  | 4, v => v = .slice As n2 cs
  | 5, v => v = .slice s.A2 n2 s.c2
  | 6, v => v = .pointer (some ⟨ob, 1, none⟩)
  | 8, v => v = .pointer (some ⟨ob, 2, none⟩)
  | _, _ => True
def OwnPln (w : World) (l : Pln) (e : Ending) (w' : World) : Prop := ∃ Al cl As cs q1 q2, e = .returned (.agg (plnV Al cl As cs l)) ∧ OwnS w' 55 6 Al l.calls.length cl (cacs l.calls) q1 ∧ OwnS w' 126 3 As l.swps.length cs (swcs l.swps) q2 ∧
  (∀ x ∈ q1, w.heap.size ≤ x) ∧ (∀ x ∈ q2, w.heap.size ≤ x) ∧ (∀ x ∈ q1, x ∉ q2) ∧ Below w.heap.size w w'
theorem copyPlan_own (D : Nat) (Al : Option Addr) (cl : Nat) (As : Option Addr) (cs : Nat) (l : Pln) (w : World) (hp : PlnB D w Al cl As cs l) (hD : D ≤ w.heap.size) (hl : l.calls.length ≤ 100000000) (hs : l.swps.length ≤ 100000000) :
    Calls Try.prog 33 #[.agg (plnV Al cl As cs l)] w (OwnPln w l) := by
  obtain ⟨W, hW⟩ : ∃ W, W = (w.alloc (.cells (plnV Al cl As cs l) 31)).alloc (.cells #[.int .i64 0, .slice none 0 0, .slice none 0 0] 31) := ⟨_, rfl⟩;obtain ⟨ob, hob⟩ : ∃ b, b = w.heap.size := ⟨_, rfl⟩;obtain ⟨rb, hrb⟩ : ∃ b, b = w.heap.size + 1 := ⟨_, rfl⟩;have b0 : Below w.heap.size w W := by rw [hW]; exact ((Below.refl _ _).alloc (Nat.le_refl _) _).alloc (by simp) _
  have h1 : W.heap[ob]? = some (.cells (plnV Al cl As cs l) 31 (0, 0)) := by rw [hW, hob]; exact hA_ (heap_alloc_new _ _) _
  have h2 : W.heap[rb]? = some (.cells #[.int .i64 0, .slice none 0 0, .slice none 0 0] 31 (0, 0)) := by
    rw [hW, hrb];have := heap_alloc_new (w.alloc (.cells (plnV Al cl As cs l) 31)) (.cells #[.int .i64 0, .slice none 0 0, .slice none 0 0] 31)
    rwa [World.size_alloc] at this
  have hp1 := hp.below (b0.mono hD);obtain ⟨n1, hn1⟩ : ∃ n, n = l.calls.length := ⟨_, rfl⟩;obtain ⟨n2, hn2⟩ : ∃ n, n = l.swps.length := ⟨_, rfl⟩;obtain ⟨h, hh⟩ : ∃ h, h = l.hours := ⟨_, rfl⟩;have hDW : D ≤ W.heap.size := Nat.le_trans hD b0.size;have C1 := fun wx (hk : Keep [ob] W wx) => cloneCal_any Al n1 cl (cacs l.calls) wx (by have bw := b0.trans (hk.below b0.size (by simp [hob])); rw [hn1]; exact (hp.calls.below (bw.mono hD)).rd (by have := bw.size; omega)) (by intro u hu; obtain ⟨x, _, hx⟩ := List.mem_flatMap.1 hu; simp [cac] at hx; rcases hx with rfl | rfl | rfl | rfl | rfl | rfl <;> rfl) (fun e => ⟨by have := hp.c1.2.2 e; have := hp.c1.1; omega, hp.c1.2.2 e⟩) (by omega);have C2 := fun wx (hk : Keep [ob] W wx) => cloneSwp_any As n2 cs (swcs l.swps) wx (by have bw := b0.trans (hk.below b0.size (by simp [hob])); rw [hn2]; exact (hp.swps.below (bw.mono hD)).rd (by have := bw.size; omega)) (by intro u hu; obtain ⟨x, _, hx⟩ := List.mem_flatMap.1 hu; simp [swc] at hx; rcases hx with rfl | rfl | rfl <;> rfl) (fun e => ⟨by have := hp.c2.2.2 e; have := hp.c2.1; omega, hp.c2.2.2 e⟩) (by omega);have HC := Lib.hid (And.intro C1 C2);have hx : W.heap[ob]? = some (.cells #[.int .i64 h, .slice Al n1 cl, .slice As n2 cs] 31 (0, 0)) := by rw [hn1, hn2, hh]; exact h1
  have HX := Lib.hid hx;have hne : rb ≠ ob := by omega
  have zo := hL_ h1;have zr := hL_ h2;have HO := Lib.hid (And.intro h2 (And.intro b0 (And.intro hob (And.intro hrb (And.intro hn1 (And.intro hn2 hh))))));simp only [plnV];rw [← hn1, ← hn2, ← hh];clear C1 C2 h1 h2 hx hp1 hp hDW b0 hl hs
  go_enter Try.func33, Try.ntmps33
  go_upto_region 1 with fail
  rw [← hW, ← hrb, ← hob];clear hW hob hrb hn1 hn2 hh;refine wRS (σ := Cl2S) (by kernel_rfl) (by kernel_rfl) (fun sg jx vx _ => CppV ob n1 n2 cl cs Al As sg jx vx) (fun sg ly wx => Cl2W ⟨55, 6, n1, cacs l.calls, 126, 3, n2, swcs l.swps, ob, 31⟩ 2 5 (fun s l => #[.int .i64 h, if l 7 then .slice s.A1 n1 s.c1 else .slice Al n1 cl, if l 9 then .slice s.A2 n2 s.c2 else .slice As n2 cs]) W sg ly wx) ⟨none, 0, [], none, 0, []⟩ ?_ ?_ ?_
  · exact Cl2W.start HX.out
  · simp only [AllFrom, Nat.zero_add, Nat.reduceAdd];refine ⟨?_, ?_, ?_, ?_, ?_, ?_, ?_, ?_, ?_, ?_, trivial⟩
    · refine sP_ fun sg ly a wr hl hd hW hF => ?_;have et1 := hF.old 1 (by kernel_rfl);simp [Act.eval] at et1;exact ⟨hW.other 0 (by decide) (by decide) (by simp [upd]), .pointer (some ⟨ob, 1, none⟩), by go_simp, rfl⟩
    · refine sP_ fun sg ly a wr hl hd hW hF => ?_;simp [Region.binds] at hd;have et3 := hF.new 0 3 (by simp [hd]) rfl;simp [CppV, Act.eval] at et3;have n7 := hF.notYet 1 7 hl (by kernel_rfl);have hh := hW.hob;have cL := (cOH hh 1).trans rfl;try simp only [n7, if_false, Bool.false_eq_true] at cL
      have zL := hL_ hh;exact ⟨hW.other 1 (by decide) (by decide) (by simp [upd]), .slice Al n1 cl, by go_simp, rfl⟩
    · refine sC_ fun sg ly a wr hl hd hW hF => ?_;simp [Region.binds] at hd;have et4 := hF.new 1 4 (by simp [hd]) rfl;simp [CppV, Act.eval] at et4;have n7 := hF.notYet 2 7 hl (by kernel_rfl);refine ⟨89, #[.slice Al n1 cl], by go_simp, ?_⟩;refine (HC.out.1 wr hW.kp).mono ?_;rintro e w2 ⟨A', c', q, rfl, h1, h2, h3⟩;refine ⟨_, { sg with A1 := A', c1 := c', q1 := q }, rfl, hW.call1 (by decide) h1 h2 h3 (by simp [upd, n7]), rfl, ?_⟩;intro i u hi h;have i2 : i ≠ 2 := by rintro rfl; rw [hl] at hi; cases hi
      have i7 : i ≠ 7 := by rintro rfl; rw [n7] at hi; cases hi
      unfold CppV at h ⊢;split at h <;> first | exact h | exact absurd rfl i2 | exact absurd rfl i7
    · refine sP_ fun sg ly a wr hl hd hW hF => ?_;have et1 := hF.old 1 (by kernel_rfl);simp [Act.eval] at et1;exact ⟨hW.other 3 (by decide) (by decide) (by simp [upd]), .pointer (some ⟨ob, 2, none⟩), by go_simp, rfl⟩
    · refine sP_ fun sg ly a wr hl hd hW hF => ?_;simp [Region.binds] at hd;have et6 := hF.new 3 6 (by simp [hd]) rfl;simp [CppV, Act.eval] at et6;have n9 := hF.notYet 4 9 hl (by kernel_rfl);have hh := hW.hob;have cL := (cOH hh 2).trans rfl;try simp only [n9, if_false, Bool.false_eq_true] at cL
      have zL := hL_ hh;exact ⟨hW.other 4 (by decide) (by decide) (by simp [upd]), .slice As n2 cs, by go_simp, rfl⟩
    · refine sC_ fun sg ly a wr hl hd hW hF => ?_;simp [Region.binds] at hd;have et7 := hF.new 4 7 (by simp [hd]) rfl;simp [CppV, Act.eval] at et7;have n9 := hF.notYet 5 9 hl (by kernel_rfl);refine ⟨90, #[.slice As n2 cs], by go_simp, ?_⟩;refine (HC.out.2 wr hW.kp).mono ?_;rintro e w2 ⟨A', c', q, rfl, h1, h2, h3⟩;refine ⟨_, { sg with A2 := A', c2 := c', q2 := q }, rfl, hW.call2 (by decide) h1 h2 h3 (by simp [upd, n9]), rfl, ?_⟩;intro i u hi h;have i5 : i ≠ 5 := by rintro rfl; rw [hl] at hi; cases hi
      have i9 : i ≠ 9 := by rintro rfl; rw [n9] at hi; cases hi
      unfold CppV at h ⊢;split at h <;> first | exact h | exact absurd rfl i5 | exact absurd rfl i9
    · refine sP_ fun sg ly a wr hl hd hW hF => ?_;have et1 := hF.old 1 (by kernel_rfl);simp [Act.eval] at et1;exact ⟨hW.other 6 (by decide) (by decide) (by simp [upd]), .pointer (some ⟨ob, 1, none⟩), by go_simp, rfl⟩
    · refine sS_ rfl fun sg ly a wx hl hd hW hF => ?_;simp [Region.binds] at hd;have et9 := hF.new 6 9 (by simp [hd]) rfl;simp [CppV, Act.eval] at et9;have et5 := hF.new 2 5 (by simp [hd]) rfl;simp [CppV, Act.eval] at et5;have y2 : ly 2 = true := by simp [hd]
      have hh := hW.hob;have cL1 := (cOH hh 1).trans rfl;have fL1 := fOH hh 1;have zL := hL_ hh;exact ⟨(wx.setCell ⟨ob, 1, none⟩ (.slice sg.A1 n1 sg.c1)), sg, .skip, by go_simp, .inl rfl, hW.put 7 (by decide) (by decide) ((Keep.refl _ _).setCell (.inl (by simp)) _) ((hS_ (hh) 1 _).trans (by simp [upd, hl])), fun _ _ _ h => h⟩
    · refine sP_ fun sg ly a wr hl hd hW hF => ?_;have et1 := hF.old 1 (by kernel_rfl);simp [Act.eval] at et1;exact ⟨hW.other 8 (by decide) (by decide) (by simp [upd]), .pointer (some ⟨ob, 2, none⟩), by go_simp, rfl⟩
    · refine sS_ rfl fun sg ly a wx hl hd hW hF => ?_;simp [Region.binds] at hd;have et10 := hF.new 8 10 (by simp [hd]) rfl;simp [CppV, Act.eval] at et10;have et8 := hF.new 5 8 (by simp [hd]) rfl;simp [CppV, Act.eval] at et8;have y5 : ly 5 = true := by simp [hd]
      have hh := hW.hob;have cL2 := (cOH hh 2).trans rfl;have fL2 := fOH hh 2;have zL := hL_ hh;exact ⟨(wx.setCell ⟨ob, 2, none⟩ (.slice sg.A2 n2 sg.c2)), sg, .skip, by go_simp, .inl rfl, hW.put 9 (by decide) (by decide) ((Keep.refl _ _).setCell (.inl (by simp)) _) ((hS_ (hh) 2 _).trans (by simp [upd, hl])), fun _ _ _ h => h⟩
  intro sg af w4 hWW hF;obtain ⟨ff, hf, rfl⟩ := hF.lit;obtain ⟨o1, o1'⟩ := hWW.a1 rfl;obtain ⟨o2, o2'⟩ := hWW.a2 rfl;have hob4 := hWW.hob;have hdj := hWW.dj rfl rfl;simp only [List.length_cons, List.length_nil, Nat.reduceAdd, Nat.reduceLT, decide_true, if_true] at hob4;have kp := hWW.kp;have hr4 := (kp.block _ zr (by simpa using hne)).trans HO.out.1;have q0 := (cOH hob4 0).trans rfl;have q1 := (cOH hob4 1).trans rfl;have q2 := (cOH hob4 2).trans rfl;have f0 := fOH hr4 0;have f1 := fOH hr4 1;have f2 := fOH hr4 2;have r0 := (cOH hr4 0).trans rfl;have r1 := (cOH hr4 1).trans rfl;have r2 := (cOH hr4 2).trans rfl;have zo4 := hL_ hob4;have zr4 := hL_ hr4;have H4 := Lib.hid (And.intro o1 (And.intro o1' (And.intro o2 (And.intro o2' (And.intro hdj (And.intro kp hr4))))));clear hf hF hWW o1 o2 o1' o2' hob4 kp hr4 hdj;simp only [List.filterMap, List.foldl, List.setIfInBounds_toArray, List.set_cons_succ, List.set_cons_zero];go_wp2_with fail
  obtain ⟨o1, o1', o2, o2', hdj, kp, hr4⟩ := H4.out;have ew := hS_ (hS_ (hS_ hr4 0 (.int .i64 h)) 1 (.slice sg.A1 n1 sg.c1)) 2 (.slice sg.A2 n2 sg.c2);have y0 := (cOH ew 0).trans rfl;have y1 := (cOH ew 1).trans rfl;have y2 := (cOH ew 2).trans rfl;obtain ⟨-, b0, hob, hrb, hn1, hn2, hh⟩ := HO.out;have kr : Keep [rb] w4 (((w4.setCell ⟨rb, 0, none⟩ (.int .i64 h)).setCell ⟨rb, 1, none⟩ (.slice sg.A1 n1 sg.c1)).setCell ⟨rb, 2, none⟩ (.slice sg.A2 n2 sg.c2)) := (((Keep.refl _ _).setCell (.inl (by simp)) _).setCell (.inl (by simp)) _).setCell (.inl (by simp)) _;refine bodyPost_ret (v := .agg (plnV sg.A1 sg.c1 sg.A2 sg.c2 l)) (by simp only [plnV]; rw [← hn1, ← hn2, ← hh]; simp [results, Try.results33, go_sem, y0, y1, y2]) rfl ?_;refine ⟨sg.A1, sg.c1, sg.A2, sg.c2, sg.q1, sg.q2, by first | rfl | (simp only [plnV]; rw [← hn1, ← hn2, ← hh]), ?_, ?_, ?_, ?_, hdj, ?_⟩
  · rw [← hn1]; exact o1.keepS kr (fun g hg => by have := o1' g hg; simp; omega)
  · rw [← hn2]; exact o2.keepS kr (fun g hg => by have := o2' g hg; simp; omega)
  · intro x hx; have := o1' x hx; have := b0.size; omega
  · intro x hx; have := o2' x hx; have := b0.size; omega
  · exact (b0.trans (kp.below b0.size (by simp; omega))).trans (kr.below (by have := b0.size; have := kp.size; omega) (by simp; omega))
end Go.Proofs.Ythmldeningpjbaa
namespace Go.Proofs.Ythmldeningpjbaa.Pt
open Sp
def vstOk (v : Vst) : Bool := within v.arr 0 1000 && (within v.last v.arr 2000 && (within v.stay 1 100 && within v.dra 10 3000))
def askedE (p : Prt) (l : List Vst) : Int := if checkP p ≠ 0 then checkP p else if 5 < l.length then 2 else if l.all vstOk = false then 1 else 0
def cmp1 (a b : Plc) : Int := if a.berth ≠ b.berth then a.berth - b.berth else a.start - b.start
def cmpPl : List Plc → List Plc → Int
  | [], [] => 0
  | [], _ :: _ => -1
  | _ :: _, [] => 1
  | a :: l, b :: m => if cmp1 a b ≠ 0 then cmp1 a b else cmpPl l m
structure Bst where
  least : Int
  found : List Plc
  places : List Plc
deriving DecidableEq, Inhabited
def bestLeaf (waiting : Int) (s : Bst) : Bst := if s.least < 0 ∨ waiting < s.least ∨ cmpPl s.places s.found < 0 then ⟨waiting, s.places, s.places⟩ else s
def vs (l : List Vst) (i : Nat) : Vst := l.getD i default
def seekS (p : Prt) (l : List Vst) : Nat → Int → List Int → List Bool → Bst → Bst
  | 0, waiting, _, _, s => if 0 ≤ s.least ∧ s.least < waiting then s else bestLeaf waiting s
  | n + 1, waiting, free, done, s =>
    if 0 ≤ s.least ∧ s.least < waiting then s else
    (List.range l.length).foldl (fun s i =>
      if done.getD i false then s else
      (List.range p.bts.length).foldl (fun s b =>
        if (p.bts.getD b default).depth < (vs l i).dra ∨ (vs l i).last < max (vs l i).arr (free.getD b 0) then s
        else seekS p l n (waiting + max (vs l i).arr (free.getD b 0) - (vs l i).arr) (free.set b (max (vs l i).arr (free.getD b 0) + (vs l i).stay)) (done.set i true)
          ⟨s.least, s.found, s.places.set i ⟨b, max (vs l i).arr (free.getD b 0)⟩⟩) s) s
def bestS (p : Prt) (l : List Vst) : Bst := seekS p l l.length 0 (List.replicate p.bts.length 0) (List.replicate l.length false) ⟨-1, [], List.replicate l.length ⟨0, 0⟩⟩
def bestE (p : Prt) (l : List Vst) : Int := if askedE p l ≠ 0 then askedE p l else if (bestS p l).least < 0 then 4 else 0
def bestN (p : Prt) (l : List Vst) : Int := if bestE p l = 0 then (bestS p l).least else 0
def bestV (p : Prt) (l : List Vst) : List Plc := if bestE p l = 0 then (bestS p l).found else []
end Go.Proofs.Ythmldeningpjbaa.Pt
namespace Go.Proofs.Ythmldeningpjbaa
open Go Go.RowKit Sp Pt
abbrev plcV (x : Plc) : Value := .agg #[.int .i64 x.berth, .int .i64 x.start]
def plcOk (x : Plc) : Prop := 0 ≤ x.berth ∧ x.berth ≤ 1000000 ∧ 0 ≤ x.start ∧ x.start ≤ 1000000
theorem cmp1_any (x y : Plc) (w : World) (hx : plcOk x) (hy : plcOk y) :
    Calls Try.prog 131 #[plcV x, plcV y] w fun e w' => e = .returned (.int .i64 (cmp1 x y)) ∧ Below w.heap.size w w' := by
  obtain ⟨xb, xs⟩ := x;obtain ⟨yb, ys⟩ := y;obtain ⟨x1, x2, x3, x4⟩ := hx;obtain ⟨y1, y2, y3, y4⟩ := hy;simp only [plcV] at *;obtain ⟨W, hW⟩ : ∃ W, W = (w.alloc (.cells #[.int .i64 xb, .int .i64 xs] 109)).alloc (.cells #[.int .i64 yb, .int .i64 ys] 109) := ⟨_, rfl⟩;obtain ⟨b1, h1⟩ : ∃ b, b = w.heap.size := ⟨_, rfl⟩;obtain ⟨b2, h2⟩ : ∃ b, b = w.heap.size + 1 := ⟨_, rfl⟩;have g1 : W.heap[b1]? = some (.cells #[.int .i64 xb, .int .i64 xs] 109 (0, 0)) := by rw [hW, h1]; exact hA_ (heap_alloc_new _ _) _
  have g2 : W.heap[b2]? = some (.cells #[.int .i64 yb, .int .i64 ys] 109 (0, 0)) := by
    rw [hW, h2];have := heap_alloc_new (w.alloc (.cells #[.int .i64 xb, .int .i64 xs] 109)) (.cells #[.int .i64 yb, .int .i64 ys] 109)
    rwa [World.size_alloc] at this
  have b0 : Below w.heap.size w W := by rw [hW]; exact ((Below.refl _ _).alloc (Nat.le_refl _) _).alloc (by simp) _
  have c0 : W.cell? ⟨b1, 0, none⟩ = some (.int .i64 xb) := (cOH g1 0).trans rfl;have c1 : W.cell? ⟨b1, 1, none⟩ = some (.int .i64 xs) := (cOH g1 1).trans rfl;have c2 : W.cell? ⟨b2, 0, none⟩ = some (.int .i64 yb) := (cOH g2 0).trans rfl;have c3 : W.cell? ⟨b2, 1, none⟩ = some (.int .i64 ys) := (cOH g2 1).trans rfl;have z1 := hL_ g1;have z2 := hL_ g2;have H := Lib.hid b0;clear g1 g2 b0
  go_enter Try.func131, Try.ntmps131
  go_upto_region 1 with fail
  rw [← hW, ← h2, ← h1];clear hW h1 h2;by_cases e : xb = yb
  · have eb : (xb != yb) = false := by simp [e]
    have HE := Lib.hid e;clear e;go_wp2_with fail
    go_ret;exact ⟨by rw [show cmp1 ⟨xb, xs⟩ ⟨yb, ys⟩ = xs - ys from if_neg (by simpa using HE.out)]; rfl, H.out⟩
  · have eb : (xb != yb) = true := by simp [e]
    have HE := Lib.hid e;clear e;go_wp2_with fail
    go_ret;exact ⟨by rw [show cmp1 ⟨xb, xs⟩ ⟨yb, ys⟩ = xb - yb from if_pos (by simpa using HE.out)]; rfl, H.out⟩
theorem cmpPl_any (A : Option Addr) (ca : Nat) (L : List Plc) (B : Option Addr) (cb : Nat) (M : List Plc) (w : World) (hL : Rd w 2 A L.length (plcs L)) (hM : Rd w 2 B M.length (plcs M)) (oL : ∀ x ∈ L, plcOk x) (oM : ∀ x ∈ M, plcOk x)
    (hl : L.length ≤ 1000) (hm : M.length ≤ 1000) :
    Calls Try.prog 130 #[.slice A L.length ca, .slice B M.length cb, .func (.func 131) #[] #[]] w fun e w' => e = .returned (.int .i64 (cmpPl L M)) ∧ Below w.heap.size w w' := by
  have H := Lib.hid (And.intro hL (And.intro hM (And.intro oL oM)));clear hL hM oL oM;obtain ⟨n, hn⟩ : ∃ n, n = L.length := ⟨_, rfl⟩;obtain ⟨m, hme⟩ : ∃ m, m = M.length := ⟨_, rfl⟩;rw [← hn, ← hme];rw [← hn] at hl;rw [← hme] at hm;have HN := Lib.hid (And.intro hn hme);clear hn hme
  go_enter Try.func130, Try.ntmps130
  go_wp2_with fail
  go_loopg [13] (n) (fun g i wr => ∃ k : Nat, g + k = n ∧ i = .int .i64 k ∧ k ≤ m ∧ cmpPl L M = cmpPl (L.drop k) (M.drop k) ∧ Keep [] w wr)
  case atStart => exact ⟨0, rfl, rfl, Nat.zero_le _, rfl, Keep.refl _ _⟩
  case round =>
    obtain ⟨k, hk, rfl, hkm, hc, hK⟩ := hrel;by_cases hlt : k < n
    · have hkL : k < L.length := by rw [← HN.out.1]; exact hlt
      have hdL : L.drop k = L[k] :: L.drop (k + 1) := List.drop_eq_getElem_cons hkL;obtain ⟨b, off, rfl, hb, hcl⟩ := (hK.rd H.out.1 (by simp)).2 (by omega);obtain ⟨p0, p1⟩ := plcs_get hkL;obtain ⟨x, hx⟩ : ∃ x, x = L[k] := ⟨_, rfl⟩;have ox : plcOk x := H.out.2.2.1 x (by rw [hx]; exact List.getElem_mem _);rw [← hx] at p0 p1 hdL;have d0 := hcl _ _ p0;have d1 : wr.cell? ⟨b, off + k * 2 + 1, none⟩ = _ := hcl _ _ p1;by_cases hltm : k < m
      · have hkM : k < M.length := by rw [← HN.out.2]; exact hltm
        have hdM : M.drop k = M[k] :: M.drop (k + 1) := List.drop_eq_getElem_cons hkM;obtain ⟨b', off', rfl, hb', hcm⟩ := (hK.rd H.out.2.1 (by simp)).2 (by omega);obtain ⟨q0, q1⟩ := plcs_get hkM;obtain ⟨y, hy⟩ : ∃ y, y = M[k] := ⟨_, rfl⟩;have oy : plcOk y := H.out.2.2.2 y (by rw [hy]; exact List.getElem_mem _);rw [← hy] at q0 q1 hdM;have e0 := hcm _ _ q0;have e1 : wr.cell? ⟨b', off' + k * 2 + 1, none⟩ = _ := hcm _ _ q1;have kc := fun wx => cmp1_any x y wx ox oy;have hS : cmpPl L M = if cmp1 x y ≠ 0 then cmp1 x y else cmpPl (L.drop (k + 1)) (M.drop (k + 1)) := by rw [hc, hdL, hdM]; rfl
        obtain ⟨r, hr⟩ : ∃ r, r = cmp1 x y := ⟨_, rfl⟩;simp only [← hr] at kc hS;obtain ⟨xb, xs⟩ := x;obtain ⟨yb, ys⟩ := y;simp only at d0 d1 e0 e1;have HI := Lib.hid (And.intro hS (And.intro hK kc));clear hS hK kc hc hcl hcm p0 p1 q0 q1 ox oy hdL hdM hx hy hr;by_cases hr0 : r = 0
        · subst hr0;go_wp2_with (go_at_call 131; refine (HI.out.2.2 _).mono ?_; rintro e w2 ⟨rfl, b2⟩; have B2 := Lib.hid b2; clear b2)
          go_roundg (gk - 1);case measure => omega
          case rel => exact ⟨k + 1, by omega, by go_num, by omega, by rw [HI.out.1]; rfl, ((HI.out.2.1.alloc _).alloc _).trans (Keep.of_below (S := []) B2.out) (by simp)⟩
        · have hrb : (r != 0) = true := by simp [hr0]
          go_wp2_with (go_at_call 131; refine (HI.out.2.2 _).mono ?_; rintro e w2 ⟨rfl, b2⟩; have B2 := Lib.hid b2; clear b2)
          go_ret;exact ⟨by rw [HI.out.1, if_pos (by assumption)]; rfl, (((HI.out.2.1.alloc _).alloc _).trans (Keep.of_below (S := []) B2.out) (by simp)).below (Nat.le_refl _) (by simp)⟩
      · obtain rfl : k = m := by omega
        have hdM : M.drop k = [] := List.drop_eq_nil_of_le (by rw [← HN.out.2]; omega);have hS : cmpPl L M = 1 := by rw [hc, hdL, hdM]; rfl
        obtain ⟨xb, xs⟩ := x;simp only at d0 d1;have HI := Lib.hid (And.intro hS hK);clear hS hK hc hcl p0 p1 ox hdL hdM hx;go_wp2_with fail
        go_ret;exact ⟨by rw [HI.out.1]; rfl, (HI.out.2.alloc _).below (Nat.le_refl _) (by simp)⟩
    · obtain rfl : k = n := by omega
      have hdL : L.drop k = [] := List.drop_eq_nil_of_le (by rw [← HN.out.1]; omega);by_cases hltm : k < m
      · have hkM : k < M.length := by rw [← HN.out.2]; exact hltm
        have hdM : M.drop k = M[k] :: M.drop (k + 1) := List.drop_eq_getElem_cons hkM;have hS : cmpPl L M = -1 := by rw [hc, hdL, hdM]; rfl
        have HI := Lib.hid (And.intro hS hK);clear hS hK hc hdL hdM;go_wp2_with fail
        go_ret;exact ⟨by rw [HI.out.1]; rfl, HI.out.2.below (Nat.le_refl _) (by simp)⟩
      · have hdM : M.drop k = [] := List.drop_eq_nil_of_le (by rw [← HN.out.2]; omega);have hS : cmpPl L M = 0 := by rw [hc, hdL, hdM]; rfl
        have HI := Lib.hid (And.intro hS hK);clear hS hK hc hdL hdM;go_wp2_with fail
        go_ret;exact ⟨by rw [HI.out.1]; rfl, HI.out.2.below (Nat.le_refl _) (by simp)⟩
theorem asked_bad {p : Prt} {l : List Vst} (hc : checkP p = 0) (hl : l.length ≤ 5) {k : Nat} (hk : k < l.length) (h : vstOk l[k] = false) : askedE p l = 1 := by
  have : l.all vstOk = false := by
    cases q : l.all vstOk with
    | false => rfl
    | true => rw [List.all_eq_true.1 q _ (List.getElem_mem hk)] at h; cases h
  unfold askedE;rw [if_neg (by rw [hc]; decide), if_neg (by omega), if_pos this]
theorem asked_any (D : Nat) (Ac : Option Addr) (cc : Nat) (Ab : Option Addr) (cb : Nat) (p : Prt) (A : Option Addr) (c : Nat) (l : List Vst) (w : World) (PB : PrtB D w Ac cc Ab cb p) (hr : Rd w 4 A l.length (vscs l)) (hD : D ≤ w.heap.size) :
    Calls Try.prog 104 #[.agg (prtV Ac cc Ab cb p), .slice A l.length c] w fun e w' => e = .returned (.int .i64 (askedE p l)) ∧ Below w.heap.size w w' := by
  obtain ⟨W, hW⟩ : ∃ W, W = w.alloc (.cells (prtV Ac cc Ab cb p) 26) := ⟨_, rfl⟩;obtain ⟨pb, hpb⟩ : ∃ b, b = w.heap.size := ⟨_, rfl⟩;have hh : W.heap[pb]? = some (.cells (prtV Ac cc Ab cb p) 26 (0, 0)) := by rw [hW, hpb]; exact heap_alloc_new _ _
  have b0 : Below w.heap.size w W := by rw [hW]; exact (Below.refl _ _).alloc (Nat.le_refl _) _
  have c0 : W.cell? ⟨pb, 0, none⟩ = some (.slice Ac p.chs.length cc) := (cOH hh 0).trans rfl;have c1 : W.cell? ⟨pb, 1, none⟩ = some (.slice Ab p.bts.length cb) := (cOH hh 1).trans rfl;have c2 : W.cell? ⟨pb, 2, none⟩ = some (.int .i64 p.tugs) := (cOH hh 2).trans rfl;have zp := hL_ hh;obtain ⟨er, her⟩ : ∃ er, er = checkP p := ⟨_, rfl⟩;have kc := ptCheck_any D Ac cc Ab cb p W (PB.below (b0.mono hD)) (by have := b0.size; omega);rw [← her] at kc;have H := Lib.hid (And.intro b0 (And.intro her (And.intro kc hr)));clear hh b0 kc her hr PB
  go_enter Try.func104, Try.ntmps104
  go_upto_region 1 with fail
  rw [← hW, ← hpb];clear hW hpb;by_cases h0 : er = 0
  · subst h0;by_cases hl : l.length ≤ 5
    · go_upto_region 4 with (go_at_call 50; refine H.out.2.2.1.mono ?_; rintro e w1 ⟨rfl, b1⟩; have B1 := Lib.hid (And.intro (H.out.1.trans (b1.mono H.out.1.size)) (H.out.2.2.2.below (H.out.1.trans (b1.mono H.out.1.size)))); clear b1)
      clear c0 c1 c2 zp;go_wp2_with fail
      go_loopg [18] (l.length) (fun g i wr => ∃ k : Nat, g + k = l.length ∧ i = .int .i64 k ∧ (l.take k).all vstOk = true ∧ Keep [] w1 wr)
      case atStart => exact ⟨0, rfl, rfl, by simp, Keep.refl _ _⟩
      case round =>
        obtain ⟨k, hk, rfl, hok, hK⟩ := hrel;by_cases hlt : k < l.length
        · obtain ⟨b, off, rfl, hb, hcl⟩ := (hK.rd B1.out.2 (by simp)).2 (by omega);obtain ⟨p0, p1, p2, p3⟩ := vscs_get hlt;obtain ⟨x, hx⟩ : ∃ x, x = l[k] := ⟨_, rfl⟩;rw [← hx] at p0 p1 p2 p3;have d0 := hcl _ _ p0;have d1 : wr.cell? ⟨b, off + k * 4 + 1, none⟩ = _ := hcl _ _ p1;have d2 : wr.cell? ⟨b, off + k * 4 + 2, none⟩ = _ := hcl _ _ p2;have d3 : wr.cell? ⟨b, off + k * 4 + 3, none⟩ = _ := hcl _ _ p3;obtain ⟨ar, la, st, dr⟩ := x;simp only at d0 d1 d2 d3;have hvk : vstOk l[k] = (within ar 0 1000 && (within la ar 2000 && (within st 1 100 && within dr 10 3000))) := by rw [← hx]; rfl
          have hbad := fun h => asked_bad (p := p) H.out.2.1.symm hl hlt h;have HI := Lib.hid (And.intro hvk (And.intro hok (And.intro hK hbad)));clear hvk hok hK hcl p0 p1 p2 p3 hx hbad;cases w1' : within ar 0 1000
          · go_wp2_with (go_at_call 80; refine (pWa _ _ _ _).mono ?_; rintro e w' ⟨rfl, rfl⟩)
            go_ret;exact ⟨by rw [HI.out.2.2.2 (by rw [HI.out.1]; simp_all)]; rfl, B1.out.1.trans ((HI.out.2.2.1.alloc _).below B1.out.1.size (by simp))⟩
          · cases w2' : within la ar 2000
            · go_wp2_with (go_at_call 80; refine (pWa _ _ _ _).mono ?_; rintro e w' ⟨rfl, rfl⟩)
              go_ret;exact ⟨by rw [HI.out.2.2.2 (by rw [HI.out.1]; simp_all)]; rfl, B1.out.1.trans ((HI.out.2.2.1.alloc _).below B1.out.1.size (by simp))⟩
            · cases w3' : within st 1 100
              · go_wp2_with (go_at_call 80; refine (pWa _ _ _ _).mono ?_; rintro e w' ⟨rfl, rfl⟩)
                go_ret;exact ⟨by rw [HI.out.2.2.2 (by rw [HI.out.1]; simp_all)]; rfl, B1.out.1.trans ((HI.out.2.2.1.alloc _).below B1.out.1.size (by simp))⟩
              · cases w4' : within dr 10 3000
                · go_wp2_with (go_at_call 80; refine (pWa _ _ _ _).mono ?_; rintro e w' ⟨rfl, rfl⟩)
                  go_ret;exact ⟨by rw [HI.out.2.2.2 (by rw [HI.out.1]; simp_all)]; rfl, B1.out.1.trans ((HI.out.2.2.1.alloc _).below B1.out.1.size (by simp))⟩
                · go_wp2_with (go_at_call 80; refine (pWa _ _ _ _).mono ?_; rintro e w' ⟨rfl, rfl⟩)
                  go_roundg (gk - 1);case measure => omega
                  case rel => exact ⟨k + 1, by omega, by go_num, all_take_succ hlt HI.out.2.1 (by rw [HI.out.1]; simp_all), HI.out.2.2.1.alloc _⟩
        · obtain rfl : k = l.length := by omega
          rw [List.take_length] at hok;have HL := Lib.hid (And.intro hok hK);clear hok hK;go_wp2_with fail
          go_ret;exact ⟨by rw [show askedE p l = 0 by unfold askedE; rw [if_neg (by rw [← H.out.2.1]; decide), if_neg (by omega), if_neg (by rw [HL.out.1]; decide)]]; rfl, B1.out.1.trans (HL.out.2.below B1.out.1.size (by simp))⟩
    · have hlb : (5 : Int) < (l.length : Int) := by omega
      go_wp2_with (go_at_call 50; refine H.out.2.2.1.mono ?_; rintro e w1 ⟨rfl, b1⟩; have B1 := Lib.hid (H.out.1.trans (b1.mono H.out.1.size)); clear b1)
      go_ret;exact ⟨by rw [show askedE p l = 2 by unfold askedE; rw [if_neg (by rw [← H.out.2.1]; decide), if_pos (by omega)]]; rfl, B1.out⟩
  · have hrb : (er != 0) = true := by simp [h0]
    have HC := Lib.hid h0;clear h0;go_wp2_with (go_at_call 50; refine H.out.2.2.1.mono ?_; rintro e w1 ⟨rfl, b1⟩; have B1 := Lib.hid (H.out.1.trans (b1.mono H.out.1.size)); clear b1)
    go_ret;exact ⟨by rw [show askedE p l = er by unfold askedE; rw [← H.out.2.1, if_pos HC.out]]; rfl, B1.out⟩
end Go.Proofs.Ythmldeningpjbaa
