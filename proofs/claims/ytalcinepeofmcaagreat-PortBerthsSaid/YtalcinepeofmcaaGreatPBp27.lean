import Derived.Test.YtalcinepeofmcaaGreatPBp26
import Derived.Test.YtalcinepeofmcaaGreatPBp2
import Derived.Test.YtalcinepeofmcaaGreatPBp12
import Derived.Deep.DeepCutAuto
import Derived.Test.YtalcinepeofmcaaGreatPBp0
import Derived.Test.YtalcinepeofmcaaGreatPBp19
import Derived.Test.YtalcinepeofmcaaGreatPBp11
set_option linter.unusedVariables false
set_option linter.unusedSimpArgs false
set_option maxRecDepth 100000
set_option maxHeartbeats 40000000
namespace Go.Proofs.YtalcinepeofmcaaGreat
open Go Go.RowKit Sp Pt
def CpoV (ob n1 n2 cc cb : Nat) (Ac Ab : Option Addr) (s : Cl2S) : Nat → Value → Prop
  | 0, v => v = .pointer (some ⟨ob, 0, none⟩)
  | 1, v => v = .slice Ac n1 cc
  | 2, v => v = .slice s.A1 n1 s.c1
  | 3, v => v = .pointer (some ⟨ob, 1, none⟩)
  | 4, v => v = .slice Ab n2 cb
  | 5, v => v = .slice s.A2 n2 s.c2
  | 6, v => v = .pointer (some ⟨ob, 0, none⟩)
  | 8, v => v = .pointer (some ⟨ob, 1, none⟩)
  | _, _ => True
structure CpS where
  A : Option Addr
  c : Nat
def CpbV (W0 : World) (R : List Nat) (rb ob ab n cb k m ck : Nat) (Ak : Option Addr) (path : List Int) (xs : List Value) (s : CpS) : Nat → Value → Prop
  | 0, v => v = .pointer (some ⟨ob, 1, none⟩)
  | 1, v => v = .slice (some ⟨ab, 0, none⟩) n cb
  | 2, v => v = .int .i64 k
  | 3, v => v = .pointer (some ⟨ob, 1, none⟩)
  | 4, v => v = .slice (some ⟨ab, 0, none⟩) n cb
  | 5, v => v = .int .i64 k
  | 6, v => v = .pointer (some ⟨ab, k * 2, none⟩)
  | 7, v => v = .pointer (some ⟨ab, k * 2 + 1, none⟩)
  | 8, v => v = .slice Ak m ck
  | 9, v => v = .slice s.A m s.c
  | 10, v => v = .pointer (some ⟨ab, k * 2, none⟩)
  | 11, v => v = .pointer (some ⟨ab, k * 2 + 1, none⟩)
  | _, _ => True
def CpbW (W0 : World) (R : List Nat) (rb ob ab n cb k m ck : Nat) (Ak : Option Addr) (path : List Int) (xs : List Value) (s : CpS) (l : Nat → Bool) (w : World) : Prop := Keep [ab] W0 w ∧ (l 9 = true → PathN (rb :: ab :: R) w s.A s.c path) ∧ OwnS w 83 2 (some ⟨ab, 0, none⟩) n cb (if l 12 then xs.set (k * 2 + 1) (.slice s.A m s.c) else xs) [ab]
theorem PathsN.drewN {S : List Nat} {w : World} {L : List BrR} (h : PathsN S w L) (n : Nat) : PathsN S (w.drewN n) L := h.keep (T := []) ((Keep.refl _ _).drewN n) (by simp) (fun x hx => .inl hx)
def OwnPrt (w : World) (p : Prt) (e : Ending) (w' : World) : Prop := ∃ Ac cc Ab cb q1 q2 L, e = .returned (.agg (prtV Ac cc Ab cb p)) ∧ OwnS w' 99 3 Ac p.chs.length cc (chcs p.chs) q1 ∧ OwnS w' 83 2 Ab p.bts.length cb (brcs L) q2 ∧ L.map (·.b) = p.bts ∧ PathsN (q2 ++ List.range w.heap.size) w' L ∧
  (∀ x ∈ q1, w.heap.size ≤ x) ∧ (∀ x ∈ q2, w.heap.size ≤ x) ∧ (∀ x ∈ q1, x ∉ q2) ∧ Below w.heap.size w w'
theorem OwnPrt.new {w w' : World} {p : Prt} {e : Ending} (h : OwnPrt w p e w') : NewPrt w p e w' := by
  obtain ⟨Ac, cc, Ab, cb, q1, q2, L, h1, h2, h3, h4, h5, h6, h7, h8, h9⟩ := h;exact ⟨Ac, cc, Ab, cb, newQ w w', h1, prtH_new h2 h3 h4 (h5.keep (Keep.refl [] _) (by simp) (fun x hx => .inl (by simp at hx; simp [hx]))) h6 h7, fun x hx => (mem_newQ.1 hx).1, h9⟩
theorem copyPort_own (D : Nat) (Ac : Option Addr) (cc : Nat) (Ab : Option Addr) (cb : Nat) (p : Prt) (w : World) (hp : PrtB D w Ac cc Ab cb p) (hD : D ≤ w.heap.size) (hl : p.chs.length ≤ 1000) (hs : p.bts.length ≤ 1000) (hpl : ∀ b ∈ p.bts, b.path.length ≤ 1000) :
    Calls Tryz.prog 6 #[.agg (prtV Ac cc Ab cb p)] w (OwnPrt w p) := by
  obtain ⟨L0, hL0, hrows, hpaths⟩ := hp.bts.rows;have hL0l : L0.length = p.bts.length := by rw [← hL0]; simp
  obtain ⟨W, hW⟩ : ∃ W, W = (w.alloc (.cells (prtV Ac cc Ab cb p) 25)).alloc (.cells #[.slice none 0 0, .slice none 0 0, .int .i64 0] 25) := ⟨_, rfl⟩;obtain ⟨ob, hob⟩ : ∃ b, b = w.heap.size := ⟨_, rfl⟩;obtain ⟨rb, hrb⟩ : ∃ b, b = w.heap.size + 1 := ⟨_, rfl⟩;have O0 : Own w.heap.size w [.blk ob (.cells (prtV Ac cc Ab cb p) 25), .blk rb (.cells #[.slice none 0 0, .slice none 0 0, .int .i64 0] 25)] W := by
    have h := ((Own.start w).alloc (.cells (prtV Ac cc Ab cb p) 25)).alloc (.cells #[.slice none 0 0, .slice none 0 0, .int .i64 0] 25);rw [hW, hob, hrb];simpa using h
  have b0 := O0.bel;have h1 := O0.heap 0 rfl;obtain ⟨n1, hn1⟩ : ∃ n, n = p.chs.length := ⟨_, rfl⟩;obtain ⟨n2, hn2⟩ : ∃ n, n = p.bts.length := ⟨_, rfl⟩;obtain ⟨h, hh⟩ : ∃ h, h = p.tugs := ⟨_, rfl⟩;have C1 := fun wx (hk : Keep [ob] W wx) => cloneChn_any Ac n1 cc (chcs p.chs) wx (by have bw := b0.trans (hk.below b0.size (by simp [hob])); rw [hn1]; exact (hp.chs.below (bw.mono hD)).rd (by have := bw.size; omega)) (by intro u hu; obtain ⟨x, _, hx⟩ := List.mem_flatMap.1 hu; simp [chc] at hx; rcases hx with rfl | rfl | rfl <;> rfl) (fun e => ⟨by have := hp.c1.2.2 e; have := hp.c1.1; omega, hp.c1.2.2 e⟩) (by omega);have C2 := fun wx (hk : Keep [ob] W wx) => cloneBrt_any Ab n2 cb (brcs L0) wx (by have bw := b0.trans (hk.below b0.size (by simp [hob])); rw [hn2]; exact (hrows.below (bw.mono hD)).rd (by have := bw.size; omega)) (brcs_one L0) (fun e => ⟨by have := hp.c2.2.2 e; have := hp.c2.1; omega, hp.c2.2.2 e⟩) (by omega);have HC := Lib.hid (And.intro C1 C2);have hx : W.heap[ob]? = some (.cells #[.slice Ac n1 cc, .slice Ab n2 cb, .int .i64 h] 25 (0, 0)) := by rw [hn1, hn2, hh]; exact h1
  have HX := Lib.hid hx;have hne : rb ≠ ob := by omega
  have zo := hL_ h1;have HO := Lib.hid (And.intro O0 (And.intro hob (And.intro hrb (And.intro hn1 (And.intro hn2 hh)))));have HL := Lib.hid (And.intro hL0 (And.intro hL0l (And.intro hpl (And.intro hpaths (And.intro hs hD)))));simp only [prtV];rw [← hn1, ← hn2, ← hh];have hs2 : n2 ≤ 1000 := by omega
  clear C1 C2 h1 hx hp b0 hl hs hL0 hL0l hpl hpaths hrows hD
  go_enter Tryz.func6, Tryz.ntmps6
  go_upto_region 1 with fail
  rw [← hW, ← hrb, ← hob];clear hW hob hrb hn1 hn2 hh;refine wRS (σ := Cl2S) (by kernel_rfl) (by kernel_rfl) (fun sg jx vx _ => CpoV ob n1 n2 cc cb Ac Ab sg jx vx) (fun sg ly wx => Cl2W ⟨99, 3, n1, chcs p.chs, 83, 2, n2, brcs L0, ob, 25⟩ 2 5 (fun s l => #[if l 7 then .slice s.A1 n1 s.c1 else .slice Ac n1 cc, if l 9 then .slice s.A2 n2 s.c2 else .slice Ab n2 cb, .int .i64 h]) W sg ly wx) ⟨none, 0, [], none, 0, []⟩ ?_ ?_ ?_
  · exact Cl2W.start HX.out
  · simp only [AllFrom, Nat.zero_add, Nat.reduceAdd];refine ⟨?_, ?_, ?_, ?_, ?_, ?_, ?_, ?_, ?_, ?_, trivial⟩
    · refine sP_ fun sg ly a wr hl hd hW hF => ?_;have et1 := hF.old 1 (by kernel_rfl);simp [Act.eval] at et1;exact ⟨hW.other 0 (by decide) (by decide) (by simp [upd]), .pointer (some ⟨ob, 0, none⟩), by go_simp, rfl⟩
    · refine sP_ fun sg ly a wr hl hd hW hF => ?_;simp [Region.binds] at hd;have et4 := hF.new 0 4 (by simp [hd]) rfl;simp [CpoV, Act.eval] at et4;have n7 := hF.notYet 1 7 hl (by kernel_rfl);have hh := hW.hob;have cL := (cOH hh 0).trans rfl;try simp only [n7, if_false, Bool.false_eq_true] at cL
      have zL := hL_ hh;exact ⟨hW.other 1 (by decide) (by decide) (by simp [upd]), .slice Ac n1 cc, by go_simp, rfl⟩
    · refine sC_ fun sg ly a wr hl hd hW hF => ?_;simp [Region.binds] at hd;have et5 := hF.new 1 5 (by simp [hd]) rfl;simp [CpoV, Act.eval] at et5;have n7 := hF.notYet 2 7 hl (by kernel_rfl);refine ⟨33, #[.slice Ac n1 cc], by go_simp, ?_⟩;refine (HC.out.1 wr hW.kp).mono ?_;rintro e w2 ⟨A', c', q, rfl, h1, h2, h3⟩;refine ⟨_, { sg with A1 := A', c1 := c', q1 := q }, rfl, hW.call1 (by decide) h1 h2 h3 (by simp [upd, n7]), rfl, ?_⟩;intro i u hi h;have i2 : i ≠ 2 := by rintro rfl; rw [hl] at hi; cases hi
      have i7 : i ≠ 7 := by rintro rfl; rw [n7] at hi; cases hi
      unfold CpoV at h ⊢;split at h <;> first | exact h | exact absurd rfl i2 | exact absurd rfl i7
    · refine sP_ fun sg ly a wr hl hd hW hF => ?_;have et1 := hF.old 1 (by kernel_rfl);simp [Act.eval] at et1;exact ⟨hW.other 3 (by decide) (by decide) (by simp [upd]), .pointer (some ⟨ob, 1, none⟩), by go_simp, rfl⟩
    · refine sP_ fun sg ly a wr hl hd hW hF => ?_;simp [Region.binds] at hd;have et7 := hF.new 3 7 (by simp [hd]) rfl;simp [CpoV, Act.eval] at et7;have n9 := hF.notYet 4 9 hl (by kernel_rfl);have hh := hW.hob;have cL := (cOH hh 1).trans rfl;try simp only [n9, if_false, Bool.false_eq_true] at cL
      have zL := hL_ hh;exact ⟨hW.other 4 (by decide) (by decide) (by simp [upd]), .slice Ab n2 cb, by go_simp, rfl⟩
    · refine sC_ fun sg ly a wr hl hd hW hF => ?_;simp [Region.binds] at hd;have et8 := hF.new 4 8 (by simp [hd]) rfl;simp [CpoV, Act.eval] at et8;have n9 := hF.notYet 5 9 hl (by kernel_rfl);refine ⟨34, #[.slice Ab n2 cb], by go_simp, ?_⟩;refine (HC.out.2 wr hW.kp).mono ?_;rintro e w2 ⟨A', c', q, rfl, h1, h2, h3⟩;refine ⟨_, { sg with A2 := A', c2 := c', q2 := q }, rfl, hW.call2 (by decide) h1 h2 h3 (by simp [upd, n9]), rfl, ?_⟩;intro i u hi h;have i5 : i ≠ 5 := by rintro rfl; rw [hl] at hi; cases hi
      have i9 : i ≠ 9 := by rintro rfl; rw [n9] at hi; cases hi
      unfold CpoV at h ⊢;split at h <;> first | exact h | exact absurd rfl i5 | exact absurd rfl i9
    · refine sP_ fun sg ly a wr hl hd hW hF => ?_;have et1 := hF.old 1 (by kernel_rfl);simp [Act.eval] at et1;exact ⟨hW.other 6 (by decide) (by decide) (by simp [upd]), .pointer (some ⟨ob, 0, none⟩), by go_simp, rfl⟩
    · refine sS_ rfl fun sg ly a wx hl hd hW hF => ?_;simp [Region.binds] at hd;have et10 := hF.new 6 10 (by simp [hd]) rfl;simp [CpoV, Act.eval] at et10;have et6 := hF.new 2 6 (by simp [hd]) rfl;simp [CpoV, Act.eval] at et6;have y2 : ly 2 = true := by simp [hd]
      have hh := hW.hob;have cL0 := (cOH hh 0).trans rfl;have fL0 := fOH hh 0;have zL := hL_ hh;exact ⟨(wx.setCell ⟨ob, 0, none⟩ (.slice sg.A1 n1 sg.c1)), sg, .skip, by go_simp, .inl rfl, hW.put 7 (by decide) (by decide) ((Keep.refl _ _).setCell (.inl (by simp)) _) ((hS_ (hh) 0 _).trans (by simp [upd, hl])), fun _ _ _ h => h⟩
    · refine sP_ fun sg ly a wr hl hd hW hF => ?_;have et1 := hF.old 1 (by kernel_rfl);simp [Act.eval] at et1;exact ⟨hW.other 8 (by decide) (by decide) (by simp [upd]), .pointer (some ⟨ob, 1, none⟩), by go_simp, rfl⟩
    · refine sS_ rfl fun sg ly a wx hl hd hW hF => ?_;simp [Region.binds] at hd;have et11 := hF.new 8 11 (by simp [hd]) rfl;simp [CpoV, Act.eval] at et11;have et9 := hF.new 5 9 (by simp [hd]) rfl;simp [CpoV, Act.eval] at et9;have y5 : ly 5 = true := by simp [hd]
      have hh := hW.hob;have cL1 := (cOH hh 1).trans rfl;have fL1 := fOH hh 1;have zL := hL_ hh;exact ⟨(wx.setCell ⟨ob, 1, none⟩ (.slice sg.A2 n2 sg.c2)), sg, .skip, by go_simp, .inl rfl, hW.put 9 (by decide) (by decide) ((Keep.refl _ _).setCell (.inl (by simp)) _) ((hS_ (hh) 1 _).trans (by simp [upd, hl])), fun _ _ _ h => h⟩
  intro s1 af w4 hWW hF;obtain ⟨ff, hf, rfl⟩ := hF.lit;obtain ⟨o1, o1'⟩ := hWW.a1 rfl;obtain ⟨o2, o2'⟩ := hWW.a2 rfl;have hob4 := hWW.hob;have hdj := hWW.dj rfl rfl;simp only [List.length_cons, List.length_nil, Nat.reduceAdd, Nat.reduceLT, decide_true, if_true] at hob4;obtain ⟨A1, c1, q1, A2, c2, q2⟩ := s1;simp only at o1 o2 o1' o2' hob4 hdj;have O4 : Own w.heap.size w [.blk ob (.cells #[.slice A1 n1 c1, .slice A2 n2 c2, .int .i64 h] 25), .blk rb (.cells #[.slice none 0 0, .slice none 0 0, .int .i64 0] 25), .own 99 3 A1 n1 c1 (chcs p.chs) q1, .own 83 2 A2 n2 c2 (brcs L0) q2] w4 := by
    have zW := HO.out.1.lt 0 rfl (x := ob) (by simp [It.fp]);have zR := HO.out.1.lt 1 rfl (x := rb) (by simp [It.fp]);have hlo := HO.out.1.lo;have a := (HO.out.1.set 0 rfl (hWW.kp) hob4);have b := a.add (i := .own 99 3 A1 n1 c1 (chcs p.chs) q1) o1 (fun x hx => by have := o1' x hx; omega) (by intro j hj x hx hm; have := o1' x hx; simp at hj; rcases hj with rfl | rfl <;> simp [It.fp] at hm <;> omega);have d := b.add (i := .own 83 2 A2 n2 c2 (brcs L0) q2) o2 (fun x hx => by have := o2' x hx; omega) (by
      intro j hj x hx hm; have := o2' x hx; simp at hj; rcases hj with rfl | rfl | rfl
      · simp [It.fp] at hm; omega
      · simp [It.fp] at hm; omega
      · exact hdj x hm hx)
    exact d
  have P4 : PathsN (rb :: q2) w4 L0 := fun y hy => PathN.of_pathB ((HL.out.2.2.2.1 y hy).below (O4.bel.mono HL.out.2.2.2.2.2)) (by have := O4.lo; have := HL.out.2.2.2.2.2; omega) (fun x hx => by have h3 := HL.out.2.2.2.2.2; rcases List.mem_cons.1 hx with e | e; (have := O4.ge 1 rfl (x := rb) (by simp [It.fp]); omega); (have := O4.ge 3 rfl (x := x) e; omega));have q0 := (cOH (O4.heap 0 rfl) 1).trans rfl;have zo4 := hL_ (O4.heap 0 rfl);have H4 := Lib.hid (And.intro O4 P4);clear hf hF hWW o1 o2 o1' o2' hob4 hdj O4 P4;simp only [List.filterMap, List.foldl, List.setIfInBounds_toArray, List.set_cons_succ, List.set_cons_zero];go_wp2_with fail
  clear q0 zo4
  go_loopg [15] (n2) (fun g i wr => ∃ (k : Nat) (L : List BrR), g + k = n2 ∧ i = .int .i64 k ∧ L.map (·.b) = p.bts ∧ PathsN (rb :: q2) wr L ∧ PathsN (rb :: (q2 ++ List.range w.heap.size)) wr (L.take k) ∧
    Own w.heap.size w [.blk ob (.cells #[.slice A1 n1 c1, .slice A2 n2 c2, .int .i64 h] 25), .blk rb (.cells #[.slice none 0 0, .slice none 0 0, .int .i64 0] 25), .own 99 3 A1 n1 c1 (chcs p.chs) q1, .own 83 2 A2 n2 c2 (brcs L) q2] wr)
  case atStart => exact ⟨0, L0, rfl, rfl, HL.out.1, H4.out.2, fun y hy => absurd hy (by simp), H4.out.1⟩
  case round =>
    obtain ⟨k, L, hk, rfl, hLb, hP, hPn, hO⟩ := hrel;have hLl : L.length = n2 := by have := congrArg List.length hLb; simp at this; rw [this]; exact HO.out.2.2.2.2.1.symm
    by_cases hlt : k < n2
    · obtain ⟨g, rfl, rfl, zg, hcell, hfz⟩ := (hO.owns 3 rfl).some_ (by omega);obtain ⟨W0, hW0⟩ : ∃ W0, W0 = wr := ⟨_, rfl⟩;subst hW0;obtain ⟨b0, b1⟩ := brcs_get (l := L) (k := k) (by omega);obtain ⟨y, hy⟩ : ∃ y, y = L[k] := ⟨_, rfl⟩;rw [← hy] at b0 b1;have hyb : y.b ∈ p.bts := by rw [← hLb, hy]; exact List.mem_map.2 ⟨_, List.getElem_mem _, rfl⟩
      have hpy : PathN [rb, g] W0 y.A y.c y.b.path := hP y (by rw [hy]; exact List.getElem_mem _);have hml := HL.out.2.2.1 _ hyb;obtain ⟨⟨d0, path⟩, Ak, ck⟩ := y;simp only at b0 b1 hpy hml;obtain ⟨m, hm⟩ : ∃ m, m = path.length := ⟨_, rfl⟩;rw [← hm] at b1 hml;have zrr := hL_ (hO.heap 1 rfl);have CI : ∀ wx, Keep [g] W0 wx → Calls Tryz.prog 35 #[.slice Ak m ck] wx fun e w' => ∃ A1 c1, e = .returned (.slice A1 m c1) ∧ PathN (rb :: g :: List.range w.heap.size) w' A1 c1 path ∧ Below wx.heap.size wx w' := by
        intro wx hk;rw [hm];refine (copyIntsO_any Ak ck path wx (hpy.keep hk (S' := [rb, g]) (by simp) (fun x hx => .inl hx)).rd (by omega)).mono ?_;rintro e w' ⟨A1, c1, q, rfl, h1, h2, h3⟩;exact ⟨A1, c1, rfl, PathN.of_ownA h1 (fun x hx => by have := h2 x hx; have := hk.size; have := zrr; have := hO.bel.size; simp; omega), h3⟩
      have h1 := (cOH (hO.heap 0 rfl) 1).trans rfl;have hgo : ob ≠ g := hO.ne 0 3 rfl rfl (by decide) (by simp [It.fp]) (by simp [It.fp]);have HY := Lib.hid (And.intro h1 (And.intro hgo (And.intro b1 CI)));have ho3 := hO.owns 3 rfl;have HY2 : Hid (OwnS W0 83 2 (some ⟨g, 0, none⟩) n2 c2 (brcs L) [g]) := Lib.hid ho3;have HPN := Lib.hid hPn;have HS := Lib.hid (And.intro hP (And.intro hO (And.intro hLb (And.intro hLl (And.intro hy hm)))));have hkI : (k : Int) < (n2 : Int) := by omega
      have zo := hL_ (hO.heap 0 rfl);clear hPn hO hP hLb hy hyb hpy b0 b1 CI hcell hfz h1 ho3 hm;go_upto_region 5 with fail
      refine wRS (σ := CpS) (by kernel_rfl) (by kernel_rfl) (fun sg jx vx _ => CpbV W0 (List.range w.heap.size) rb ob g n2 c2 k m ck Ak path (brcs L) sg jx vx) (fun sg ly wx => CpbW W0 (List.range w.heap.size) rb ob g n2 c2 k m ck Ak path (brcs L) sg ly wx) ⟨none, 0⟩ ?_ ?_ ?_
      · exact ⟨(Keep.refl _ _).drew, fun h => absurd h (by simp), HY2.out⟩
      · simp only [AllFrom, Nat.zero_add, Nat.reduceAdd];refine ⟨?_, ?_, ?_, ?_, ?_, ?_, ?_, ?_, ?_, ?_, ?_, ?_, ?_, trivial⟩
        · refine sP_ fun sg ly a wr hl hd hW hF => ?_;have et1 := hF.old 1 (by kernel_rfl);simp [Act.eval] at et1;exact ⟨by simpa [CpbW, upd] using hW, .pointer (some ⟨ob, 1, none⟩), by go_simp, rfl⟩
        · refine sP_ fun sg ly a wr hl hd hW hF => ?_;simp [Region.binds] at hd;have et18 := hF.new 0 18 (by simp [hd]) rfl;simp [CpbV, Act.eval] at et18;have c0 := hW.1.cell HY.out.1 (by simpa using HY.out.2.1);exact ⟨by simpa [CpbW, upd] using hW, _, by go_simp, rfl⟩
        · refine sP_ fun sg ly a wr hl hd hW hF => ?_;have et3 := hF.old 3 (by kernel_rfl);simp [Act.eval] at et3;exact ⟨by simpa [CpbW, upd] using hW, .int .i64 k, by go_simp, rfl⟩
        · refine sP_ fun sg ly a wr hl hd hW hF => ?_;have et1 := hF.old 1 (by kernel_rfl);simp [Act.eval] at et1;exact ⟨by simpa [CpbW, upd] using hW, .pointer (some ⟨ob, 1, none⟩), by go_simp, rfl⟩
        · refine sP_ fun sg ly a wr hl hd hW hF => ?_;simp [Region.binds] at hd;have et21 := hF.new 3 21 (by simp [hd]) rfl;simp [CpbV, Act.eval] at et21;have c0 := hW.1.cell HY.out.1 (by simpa using HY.out.2.1);exact ⟨by simpa [CpbW, upd] using hW, _, by go_simp, rfl⟩
        · refine sP_ fun sg ly a wr hl hd hW hF => ?_;have et3 := hF.old 3 (by kernel_rfl);simp [Act.eval] at et3;exact ⟨by simpa [CpbW, upd] using hW, .int .i64 k, by go_simp, rfl⟩
        · refine sP_ fun sg ly a wr hl hd hW hF => ?_;simp [Region.binds] at hd;have et22 := hF.new 4 22 (by simp [hd]) rfl;simp [CpbV, Act.eval] at et22;have et23 := hF.new 5 23 (by simp [hd]) rfl;simp [CpbV, Act.eval] at et23;exact ⟨by simpa [CpbW, upd] using hW, .pointer (some ⟨g, k * 2, none⟩), by go_simp, rfl⟩
        · refine sP_ fun sg ly a wr hl hd hW hF => ?_;simp [Region.binds] at hd;have et24 := hF.new 6 24 (by simp [hd]) rfl;simp [CpbV, Act.eval] at et24;exact ⟨by simpa [CpbW, upd] using hW, .pointer (some ⟨g, k * 2 + 1, none⟩), by go_simp, rfl⟩
        · refine sP_ fun sg ly a wr hl hd hW hF => ?_;simp [Region.binds] at hd;have et25 := hF.new 7 25 (by simp [hd]) rfl;simp [CpbV, Act.eval] at et25;have n12_9 := hF.notYet 8 9 hl (by kernel_rfl);have n12 := hF.notYet 9 12 n12_9 (by kernel_rfl);have ho := hW.2.2;rw [if_neg (by simp [n12])] at ho;obtain ⟨g', e', _, zz, hcell, _⟩ := ho.some_ (by omega);injection e' with e'
          injection e' with e' _ _
          subst e';have c0 := hcell _ _ HY.out.2.2.1;exact ⟨by simpa [CpbW, upd] using hW, .slice Ak m ck, by go_simp, rfl⟩
        · refine sC_ fun sg ly a wr hl hd hW hF => ?_;simp [Region.binds] at hd;have et26 := hF.new 8 26 (by simp [hd]) rfl;simp [CpbV, Act.eval] at et26;have n12 := hF.notYet 9 12 hl (by kernel_rfl);refine ⟨35, #[.slice Ak m ck], by go_simp, ?_⟩;refine (HY.out.2.2.2 wr hW.1).mono ?_;rintro e w2 ⟨A', c', rfl, hp, hb⟩;have ho := hW.2.2;rw [if_neg (by simp [n12])] at ho;refine ⟨_, ⟨A', c'⟩, rfl, ⟨hW.1.trans (Keep.of_below (S := []) hb) (by simp), fun _ => hp, by rw [if_neg (by simp [upd, n12])]; exact ho.keepS (Keep.of_below (S := []) hb) (by simp)⟩, rfl, ?_⟩;intro i u hi h;have i9 : i ≠ 9 := by rintro rfl; rw [hl] at hi; cases hi
          unfold CpbV at h ⊢;split at h <;> first | exact h | exact absurd rfl i9
        · refine sP_ fun sg ly a wr hl hd hW hF => ?_;simp [Region.binds] at hd;have et19 := hF.new 1 19 (by simp [hd]) rfl;simp [CpbV, Act.eval] at et19;have et20 := hF.new 2 20 (by simp [hd]) rfl;simp [CpbV, Act.eval] at et20;exact ⟨by simpa [CpbW, upd] using hW, .pointer (some ⟨g, k * 2, none⟩), by go_simp, rfl⟩
        · refine sP_ fun sg ly a wr hl hd hW hF => ?_;simp [Region.binds] at hd;have et28 := hF.new 10 28 (by simp [hd]) rfl;simp [CpbV, Act.eval] at et28;exact ⟨by simpa [CpbW, upd] using hW, .pointer (some ⟨g, k * 2 + 1, none⟩), by go_simp, rfl⟩
        · refine sS_ rfl fun sg ly a wr hl hd hW hF => ?_;simp [Region.binds] at hd;have et29 := hF.new 11 29 (by simp [hd]) rfl;simp [CpbV, Act.eval] at et29;have et27 := hF.new 9 27 (by simp [hd]) rfl;simp [CpbV, Act.eval] at et27;have y9 : ly 9 = true := by simp [hd]
          have ho := hW.2.2;rw [if_neg (by simp [hl])] at ho;obtain ⟨g', e', _, zz, hcell, hfz⟩ := ho.some_ (by omega);injection e' with e'
          injection e' with e' _ _
          subst e';have c0 := hcell _ _ HY.out.2.2.1;have f0 := hfz (k * 2 + 1);have hk : Keep [g] wr (wr.setCell ⟨g, k * 2 + 1, none⟩ (.slice sg.A m sg.c)) := (Keep.refl _ _).setCell (.inl (by simp)) _;exact ⟨_, sg, .skip, by go_simp, .inl rfl, ⟨hW.1.setCell (.inl (by simp)) _, fun h => (hW.2.1 y9).keep hk (by simp) (fun x hx => .inl hx), by rw [if_pos (by simp [upd])]; exact ho.set_ _ _⟩, fun _ _ _ h => h⟩
      intro sg af w5 hWW hF;obtain ⟨ff, hf, rfl⟩ := hF.lit;obtain ⟨k5, p5, o5⟩ := hWW;have p5' := p5 rfl;simp only [List.length_cons, List.length_nil, Nat.reduceAdd, Nat.reduceLT, decide_true, if_true] at o5;obtain ⟨hP, hO, hLb, hLl, hy, hm⟩ := HS.out;have e1 : (brcs L).set (k * 2 + 1) (.slice sg.A m sg.c) = brcs (L.set k ⟨(L[k]'(by omega)).b, sg.A, sg.c⟩) := by
        have e := brcs_set (L := L) (k := k) (by omega) sg.A sg.c;rw [← hy] at e;simp only at e;rw [← hy, e, hm]
      have hN := And.intro (hO.upd 3 rfl k5 (i' := .own 83 2 (some ⟨g, 0, none⟩) n2 c2 (brcs (L.set k ⟨(L[k]'(by omega)).b, sg.A, sg.c⟩)) [g]) (by show OwnS _ _ _ _ _ _ _ _; rw [← e1]; exact o5) (fun x hx => .inl hx)) (And.intro (show PathsN [rb, g] w5 (L.set k ⟨(L[k]'(by omega)).b, sg.A, sg.c⟩) from (hP.keep k5 (by simp) (fun x hx => .inl hx)).set (by have e3 : (L[k]'(by omega)).b.path = path := (by rw [← hy]); simp only [e3]; exact p5'.keep (Keep.refl [] _) (by simp) (fun x hx => .inl (by simp at hx; rcases hx with rfl | rfl <;> simp)))) (show (L.set k ⟨(L[k]'(by omega)).b, sg.A, sg.c⟩).map (·.b) = p.bts from by rw [map_set_b (by omega)]; exact hLb));have HN := Lib.hid hN;have hPn5 : PathsN (rb :: ([g] ++ List.range w.heap.size)) w5 ((L.set k ⟨(L[k]'(by omega)).b, sg.A, sg.c⟩).take (k + 1)) := by
        rw [List.take_succ_eq_append_getElem (by rw [List.length_set]; omega), List.take_set_of_le (Nat.le_refl _)];refine ((HPN.out).keep k5 (by intro x hx; rw [List.mem_singleton.1 hx]; simp) (fun x hx => .inl hx)).snoc ?_;have e3 : (L[k]'(by omega)).b.path = path := (by rw [← hy]);simp only [List.getElem_set_self, e3];exact p5'
      have HN5 := Lib.hid hPn5;clear hf hF p5 p5' o5 hP hO hLb hy hm e1 hN k5 hPn5;simp only [List.filterMap, List.foldl, List.setIfInBounds_toArray, List.set_cons_succ, List.set_cons_zero];go_wp2_with fail
      go_roundg (gk - 1);case measure => omega
      case rel => exact ⟨k + 1, _, by omega, by go_num, HN.out.2.2, HN.out.2.1, HN5.out, HN.out.1⟩
    · obtain rfl : k = n2 := by omega
      have hob4 := hO.heap 0 rfl;have hr4 := hO.heap 1 rfl;have q0 := (cOH hob4 0).trans rfl;have q1' := (cOH hob4 1).trans rfl;have q2' := (cOH hob4 2).trans rfl;have f0 := fOH hr4 0;have f1 := fOH hr4 1;have f2 := fOH hr4 2;have r0 := (cOH hr4 0).trans rfl;have r1 := (cOH hr4 1).trans rfl;have r2 := (cOH hr4 2).trans rfl;have zo4 := hL_ hob4;have zr4 := hL_ hr4;rw [List.take_of_length_le (by omega)] at hPn;have H5 := Lib.hid (And.intro hO (And.intro hPn (And.intro hLb hr4)));clear hO hP hPn hLb hob4 hr4;go_wp2_with fail
      obtain ⟨hO, hP, hLb, hr4⟩ := H5.out;have ew := hS_ (hS_ (hS_ hr4 0 (.slice A1 n1 c1)) 1 (.slice A2 k c2)) 2 (.int .i64 h);have y0 := (cOH ew 0).trans rfl;have y1 := (cOH ew 1).trans rfl;have y2 := (cOH ew 2).trans rfl;obtain ⟨-, -, -, hn1, hn2, hh⟩ := HO.out;have kr : Keep [rb] wr (((wr.setCell ⟨rb, 0, none⟩ (.slice A1 n1 c1)).setCell ⟨rb, 1, none⟩ (.slice A2 k c2)).setCell ⟨rb, 2, none⟩ (.int .i64 h)) := (((Keep.refl _ _).setCell (.inl (by simp)) _).setCell (.inl (by simp)) _).setCell (.inl (by simp)) _;have hset := hO.set 1 rfl kr ew;refine bodyPost_ret (v := .agg #[.slice A1 n1 c1, .slice A2 k c2, .int .i64 h]) (by simp [results, Tryz.results6, go_sem, y0, y1, y2]) rfl ?_;have hlo := HO.out.1.lo;have hD1 : w.heap.size ≤ rb := hO.ge 1 rfl (by simp [It.fp]);exact ⟨A1, c1, A2, c2, q1, q2, L, by first | rfl | (simp only [prtV]; rw [← hn1, ← hn2, ← hh]), by rw [← hn1]; exact hset.owns 2 rfl, by rw [← hn2]; exact hset.owns 3 rfl, hLb, hP.keep kr (fun x hx => .inl (by rw [List.mem_singleton.1 hx]; simp)) (fun x hx => .inl (by simp only [List.mem_cons]; exact .inr hx)), fun x hx => hO.ge 2 rfl (x := x) hx, fun x hx => hO.ge 3 rfl (x := x) hx, fun x hx hm => hO.dis 2 3 _ _ rfl rfl (by decide) x (by simpa [It.fp] using hx) (by simpa [It.fp] using hm), hset.bel⟩
def longP (b : Brt) : Bool := decide (10 < b.path.length)
def heavyB (p : Prt) (l : Pln) (nb nu : Nat) : Bool := decide (10 < p.chs.length) || (decide (8 < p.bts.length) || (p.bts.any longP || (decide (70 < l.calls.length) || (decide (210 < l.swps.length) || (decide (10 < nb) || decide (10 < nu))))))
theorem heavy1_any (b : Brt) (A : Option Addr) (c : Nat) (w : World) : Calls Tryz.prog 26 #[.agg #[.int .i64 b.depth, .slice A b.path.length c]] w fun e w' => e = .returned (.bool (longP b)) ∧ Below w.heap.size w w' := by
  by_cases h : 10 < b.path.length;all_goals
    have h1 : longP b = decide (10 < b.path.length) := rfl
    go_enter Tryz.func26, Tryz.ntmps26
    go_wp2_with fail
    go_ret;exact ⟨by rw [h1]; simp [h]; try omega, by first | exact Below.refl _ _ | exact (Below.refl _ _).alloc (Nat.le_refl _) _⟩
theorem heavyI_any (A : Option Addr) (c : Nat) (L : List BrR) (w : World) (hr : Rd w 2 A L.length (brcs L)) (hm : L.length ≤ 9223372036854775807) :
    Calls Tryz.prog 52 #[.slice A L.length c, .func (.func 26) #[] #[]] w fun e w' => ∃ r : Int, e = .returned (.int .i64 r) ∧ decide (0 ≤ r) = L.any (fun y => longP y.b) ∧ Below w.heap.size w w' := by
  go_enter Tryz.func52, Tryz.ntmps52
  go_wp2_with fail
  go_loopg [8] (L.length) (fun g i wr => ∃ k : Nat, g + k = L.length ∧ i = .int .i64 k ∧ (L.take k).any (fun y => longP y.b) = false ∧ Below w.heap.size w wr)
  case atStart => exact ⟨0, rfl, rfl, by simp, Below.refl _ _⟩
  case round =>
    obtain ⟨k, hk, rfl, hb, hB⟩ := hrel;have HB := Lib.hid (And.intro hb hB);by_cases hlt : k < L.length
    · obtain ⟨b, off, rfl, hbb, hc⟩ := hr.2 (by omega);obtain ⟨g0, g1⟩ := brcs_get hlt;have c0 := (hB.cell (p := ⟨b, off + k * 2, none⟩) hbb).trans (hc _ _ g0);have c1 : wr.cell? ⟨b, off + k * 2 + 1, none⟩ = _ := (hB.cell (p := ⟨b, off + (k * 2 + 1), none⟩) hbb).trans (hc _ _ g1);obtain ⟨y, hy⟩ : ∃ y, y = L[k] := ⟨_, rfl⟩;rw [← hy] at c0 c1;obtain ⟨z, hz⟩ : ∃ z, z = longP y.b := ⟨_, rfl⟩;have H := fun wx => heavy1_any y.b y.A y.c wx;rw [← hz] at H;have hs : (L.take (k + 1)).any (fun y => longP y.b) = z := by rw [List.take_succ_eq_append_getElem hlt, List.any_append, hb, ← hy, hz]; simp
      have HH := Lib.hid (And.intro H hs);have hn1 : (0 : Int) ≤ (k : Int) := by omega
      clear H hs hz hy hc hr hb hB g0 g1;cases z
      · go_wp2_with (go_at_call 26; refine (HH.out.1 _).mono ?_; rintro e w' ⟨rfl, b'⟩; have HB' := Lib.hid b'; clear b')
        go_roundg (gk - 1);case measure => omega
        case rel => exact ⟨k + 1, by omega, by go_num, HH.out.2, HB.out.2.trans (HB'.out.mono HB.out.2.size)⟩
      · go_wp2_with (go_at_call 26; refine (HH.out.1 _).mono ?_; rintro e w' ⟨rfl, b'⟩; have HB' := Lib.hid b'; clear b')
        go_ret;refine ⟨k, rfl, ?_, HB.out.2.trans (HB'.out.mono HB.out.2.size)⟩;have h1 : L.any (fun y => longP y.b) = true := by
          obtain ⟨y, hy, hfy⟩ := List.any_eq_true.1 HH.out.2;exact List.any_eq_true.2 ⟨y, List.mem_of_mem_take hy, hfy⟩
        rw [h1]; simp
    · obtain rfl : k = L.length := by omega
      go_wp2_with fail
      go_ret;exact ⟨-1, rfl, by have := HB.out.1; rw [List.take_length] at this; rw [this]; simp, HB.out.2⟩
theorem heavyC_any (A : Option Addr) (c : Nat) (L : List BrR) (w : World) (hr : Rd w 2 A L.length (brcs L)) (hm : L.length ≤ 9223372036854775807) :
    Calls Tryz.prog 25 #[.slice A L.length c, .func (.func 26) #[] #[]] w fun e w' => e = .returned (.bool (L.any (fun y => longP y.b))) ∧ Below w.heap.size w w' := by
  have H := heavyI_any A c L w hr hm
  go_enter Tryz.func25, Tryz.ntmps25
  go_wp2_with (go_at_call 52; refine H.mono ?_; rintro e w' ⟨r, rfl, hd, hB⟩; have HD := Lib.hid (And.intro hd hB); clear hd hB)
  go_ret;exact ⟨by rw [← HD.out.1]; rfl, HD.out.2⟩
theorem heavy_any (D : Nat) (Ac : Option Addr) (cc : Nat) (Ab : Option Addr) (cb : Nat) (p : Prt) (Al : Option Addr) (cl : Nat) (As : Option Addr) (cs : Nat) (l : Pln) (Ar : Option Addr) (nb cr : Nat) (Au : Option Addr) (nu cu : Nat) (w : World)
    (hp : PrtB D w Ac cc Ab cb p) (hD : D ≤ w.heap.size) :
    Calls Tryz.prog 4 #[.agg (prtV Ac cc Ab cb p), .agg (plnV Al cl As cs l), .agg #[.slice Ar nb cr, .slice Au nu cu]] w fun e w' => e = .returned (.bool (heavyB p l nb nu)) ∧ Below w.heap.size w w' := by
  obtain ⟨L, hL, hrd, _⟩ := hp.bts.rows;have hlen : L.length = p.bts.length := by rw [← hL]; simp
  have hm : L.length ≤ 9223372036854775807 := by have := hp.c2.1; have := hp.c2.2.1; omega
  have hcont : ∀ wx, Below w.heap.size w wx → Calls Tryz.prog 25 #[.slice Ab p.bts.length cb, .func (.func 26) #[] #[]] wx fun e w' => e = .returned (.bool (p.bts.any longP)) ∧ Below wx.heap.size wx w' := by
    intro wx hb;have h := heavyC_any Ab cb L wx (by rw [hlen]; exact ((hrd.mono hD).below hb).rd hb.size) hm;rw [hlen] at h;refine h.mono ?_;rintro e w' ⟨rfl, hB⟩;exact ⟨by rw [← hL, List.any_map]; rfl, hB⟩
  obtain ⟨z, hz⟩ : ∃ z, z = p.bts.any longP := ⟨_, rfl⟩;rw [← hz] at hcont;have hv : heavyB p l nb nu = (decide (10 < p.chs.length) || (decide (8 < p.bts.length) || (z || (decide (70 < l.calls.length) || (decide (210 < l.swps.length) || (decide (10 < nb) || decide (10 < nu))))))) := by rw [hz]; rfl
  have b3 : ∀ o1 o2 o3, Below w.heap.size w (((w.alloc o1).alloc o2).alloc o3) := fun _ _ _ => (((Below.refl _ _).alloc (Nat.le_refl _) _).alloc (by simp) _).alloc (by simp; omega) _;have H := Lib.hid (And.intro hcont (And.intro hv b3));clear hcont hv b3 hp hL hrd hz hm hlen;by_cases h1 : 10 < p.chs.length
  · go_enter Tryz.func4, Tryz.ntmps4
    go_wp2_with fail
    go_ret;exact ⟨by rw [H.out.2.1]; simp [h1], H.out.2.2 _ _ _⟩
  by_cases h2 : 8 < p.bts.length
  · go_enter Tryz.func4, Tryz.ntmps4
    go_wp2_with fail
    go_ret;exact ⟨by rw [H.out.2.1]; simp [h1, h2], H.out.2.2 _ _ _⟩
  cases z
  · by_cases h4 : 70 < l.calls.length
    · go_enter Tryz.func4, Tryz.ntmps4
      go_wp2_with (go_at_call 25; refine (H.out.1 _ (H.out.2.2 _ _ _)).mono ?_; rintro e w' ⟨rfl, hB⟩; obtain ⟨hc, hf⟩ := bcell hB; have HB := Lib.hid ((H.out.2.2 _ _ _).trans (hB.mono (H.out.2.2 _ _ _).size)); clear hB)
      go_ret;exact ⟨by rw [H.out.2.1]; simp [h1, h2, h4]; try omega, HB.out⟩
    by_cases h5 : 210 < l.swps.length
    · go_enter Tryz.func4, Tryz.ntmps4
      go_wp2_with (go_at_call 25; refine (H.out.1 _ (H.out.2.2 _ _ _)).mono ?_; rintro e w' ⟨rfl, hB⟩; obtain ⟨hc, hf⟩ := bcell hB; have HB := Lib.hid ((H.out.2.2 _ _ _).trans (hB.mono (H.out.2.2 _ _ _).size)); clear hB)
      go_ret;exact ⟨by rw [H.out.2.1]; simp [h1, h2, h4, h5]; try omega, HB.out⟩
    by_cases h6 : 10 < nb
    · go_enter Tryz.func4, Tryz.ntmps4
      go_wp2_with (go_at_call 25; refine (H.out.1 _ (H.out.2.2 _ _ _)).mono ?_; rintro e w' ⟨rfl, hB⟩; obtain ⟨hc, hf⟩ := bcell hB; have HB := Lib.hid ((H.out.2.2 _ _ _).trans (hB.mono (H.out.2.2 _ _ _).size)); clear hB)
      go_ret;exact ⟨by rw [H.out.2.1]; simp [h1, h2, h4, h5, h6]; try omega, HB.out⟩
    by_cases h7 : 10 < nu
    · go_enter Tryz.func4, Tryz.ntmps4
      go_wp2_with (go_at_call 25; refine (H.out.1 _ (H.out.2.2 _ _ _)).mono ?_; rintro e w' ⟨rfl, hB⟩; obtain ⟨hc, hf⟩ := bcell hB; have HB := Lib.hid ((H.out.2.2 _ _ _).trans (hB.mono (H.out.2.2 _ _ _).size)); clear hB)
      go_ret;exact ⟨by rw [H.out.2.1]; simp [h1, h2, h4, h5, h6, h7]; try omega, HB.out⟩
    · go_enter Tryz.func4, Tryz.ntmps4
      go_wp2_with (go_at_call 25; refine (H.out.1 _ (H.out.2.2 _ _ _)).mono ?_; rintro e w' ⟨rfl, hB⟩; obtain ⟨hc, hf⟩ := bcell hB; have HB := Lib.hid ((H.out.2.2 _ _ _).trans (hB.mono (H.out.2.2 _ _ _).size)); clear hB)
      go_ret;exact ⟨by rw [H.out.2.1]; simp [h1, h2, h4, h5, h6, h7]; try omega, HB.out⟩
  · go_enter Tryz.func4, Tryz.ntmps4
    go_wp2_with (go_at_call 25; refine (H.out.1 _ (H.out.2.2 _ _ _)).mono ?_; rintro e w' ⟨rfl, hB⟩; obtain ⟨hc, hf⟩ := bcell hB; have HB := Lib.hid ((H.out.2.2 _ _ _).trans (hB.mono (H.out.2.2 _ _ _).size)); clear hB)
    go_ret;exact ⟨by rw [H.out.2.1]; simp, HB.out⟩
structure Lgt (p : Prt) (l : Pln) : Prop where
  n1 : p.chs.length ≤ 10
  n2 : p.bts.length ≤ 8
  n3 : ∀ b ∈ p.bts, b.path.length ≤ 10
  n4 : l.calls.length ≤ 70
  n5 : l.swps.length ≤ 210
theorem heavy_no {p : Prt} {l : Pln} {nb nu : Nat} (h : heavyB p l nb nu = false) : Lgt p l ∧ nb ≤ 10 ∧ nu ≤ 10 := by
  simp only [heavyB, Bool.or_eq_false_iff, decide_eq_false_iff_not, Nat.not_lt, List.any_eq_false] at h;obtain ⟨h1, h2, h3, h4, h5, h6, h7⟩ := h;refine ⟨⟨h1, h2, fun b hb => ?_, h4, h5⟩, h6, h7⟩;have := h3 b hb;simp [longP] at this;exact this
def exPrt : Prt := ⟨[⟨10, 1, 25⟩], [⟨900, [0]⟩], 3⟩
def exPln : Pln := ⟨24, [⟨2, 0, false, 800, 60, 1⟩, ⟨20, 0, true, 800, 60, 1⟩], [⟨19, 0, 2⟩]⟩
def ExV (W0 : World) (b0 b1 b2 b4 b5 b6 b7 b8 : Nat) : Nat → Value → Prop
  | 0, v => v = .agg #[.slice (some ⟨b2, 0, none⟩) 1 1, .slice (some ⟨b4, 0, none⟩) 1 1, .int .i64 3]
  | 1, v => v = .agg #[.int .i64 24, .slice (some ⟨b6, 0, none⟩) 2 2, .slice (some ⟨b7, 0, none⟩) 1 1]
  | _, _ => True
def ExW (W0 : World) (b0 b1 b2 b4 b5 b6 b7 b8 : Nat) (l : Nat → Bool) (w : World) : Prop := Keep [b0, b1] W0 w ∧ w.heap[b0]? = some (.cells (if l 2 then #[.slice (some ⟨b2, 0, none⟩) 1 1, .slice (some ⟨b4, 0, none⟩) 1 1, .int .i64 3] else #[.slice none 0 0, .slice none 0 0, .int .i64 0]) 25 (0, 0)) ∧ w.heap[b1]? = some (.cells (if l 3 then #[.int .i64 24, .slice (some ⟨b6, 0, none⟩) 2 2, .slice (some ⟨b7, 0, none⟩) 1 1] else #[.int .i64 0, .slice none 0 0, .slice none 0 0]) 35 (0, 0))
theorem ex_results {F : Func} (hF : F.results = #[.cell 0 25, .cell 1 35]) {W : World} {b0 b1 : Nat} {u0 u1 u2 v0 v1 v2 : Value} (h : W.heap[b0]? = some (.cells #[u0, u1, u2] 25 (0, 0))) (h' : W.heap[b1]? = some (.cells #[v0, v1, v2] 35 (0, 0))) (tmps : Array Value) (hr : tmps.getD 0 undef = .pointer (some ⟨b0, 0, none⟩)) (hs : tmps.getD 1 undef = .pointer (some ⟨b1, 0, none⟩))
    (n0 : ∃ A n c, u0 = .slice A n c) (n1 : ∃ A n c, u1 = .slice A n c) (n2 : ∃ x, u2 = .int .i64 x) (m0 : ∃ x, v0 = .int .i64 x) (m1 : ∃ A n c, v1 = .slice A n c) (m2 : ∃ A n c, v2 = .slice A n c) :
    (results F tmps).run Tryz.prog W = .ok (.tuple #[.agg #[u0, u1, u2], .agg #[v0, v1, v2]]) W := by
  have g0 : tmps[0]?.getD undef = .pointer (some ⟨b0, 0, none⟩) := by simpa using hr
  have g1 : tmps[1]?.getD undef = .pointer (some ⟨b1, 0, none⟩) := by simpa using hs
  obtain ⟨_, _, _, rfl⟩ := n0;obtain ⟨_, _, _, rfl⟩ := n1;obtain ⟨_, rfl⟩ := n2;obtain ⟨_, rfl⟩ := m0;obtain ⟨_, _, _, rfl⟩ := m1;obtain ⟨_, _, _, rfl⟩ := m2;have c0 := (cOH h 0).trans rfl;have c1 := (cOH h 1).trans rfl;have c2 := (cOH h 2).trans rfl;have d0 := (cOH h' 0).trans rfl;have d1 := (cOH h' 1).trans rfl;have d2 := (cOH h' 2).trans rfl;simp [results, hF, g0, g1, asAddr, go_sem, c0, c1, c2, d0, d1, d2]
def ExPost (w : World) (e : Ending) (w' : World) : Prop :=
  ∃ b2 b3 b4 b6 b7, e = .returned (.tuple #[.agg (prtV (some ⟨b2, 0, none⟩) 1 (some ⟨b4, 0, none⟩) 1 exPrt), .agg (plnV (some ⟨b6, 0, none⟩) 2 (some ⟨b7, 0, none⟩) 1 exPln)]) ∧
    PrtB w'.heap.size w' (some ⟨b2, 0, none⟩) 1 (some ⟨b4, 0, none⟩) 1 exPrt ∧ PlnB w'.heap.size w' (some ⟨b6, 0, none⟩) 2 (some ⟨b7, 0, none⟩) 1 exPln ∧ w'.heap[b4]? = some (.cells #[.int .i64 900, .slice (some ⟨b3, 0, none⟩) 1 1] 83 (0, 0)) ∧ PathB w'.heap.size w' (some ⟨b3, 0, none⟩) 1 [0] ∧ (b2 < b3 ∧ b3 < b4 ∧ w.heap.size ≤ b2) ∧ Below w.heap.size w w'
theorem ExampleP_any (w : World) : Calls Tryz.prog 27 #[] w (ExPost w) := by
  go_enter Tryz.func27, Tryz.ntmps27
  go_upto_region 3 with fail
  obtain ⟨b0, e0⟩ : ∃ b, b = w.heap.size := ⟨_, rfl⟩;obtain ⟨b1, e1⟩ : ∃ b, b = w.heap.size + 1 := ⟨_, rfl⟩;obtain ⟨b2, e2⟩ : ∃ b, b = w.heap.size + 1 + 1 := ⟨_, rfl⟩;obtain ⟨b3, e3⟩ : ∃ b, b = w.heap.size + 1 + 1 + 1 := ⟨_, rfl⟩;obtain ⟨b4, e4⟩ : ∃ b, b = w.heap.size + 1 + 1 + 1 + 1 := ⟨_, rfl⟩;obtain ⟨b5, e5⟩ : ∃ b, b = w.heap.size + 1 + 1 + 1 + 1 + 1 := ⟨_, rfl⟩;obtain ⟨b6, e6⟩ : ∃ b, b = w.heap.size + 1 + 1 + 1 + 1 + 1 + 1 := ⟨_, rfl⟩;obtain ⟨b7, e7⟩ : ∃ b, b = w.heap.size + 1 + 1 + 1 + 1 + 1 + 1 + 1 := ⟨_, rfl⟩;obtain ⟨b8, e8⟩ : ∃ b, b = w.heap.size + 1 + 1 + 1 + 1 + 1 + 1 + 1 + 1 := ⟨_, rfl⟩;rw [← e8];rw [← e7];rw [← e6];rw [← e5];rw [← e4];rw [← e3];rw [← e2];rw [← e1];rw [← e0];obtain ⟨W1, x1⟩ : ∃ W, W = w.alloc (.cells #[.slice none 0 0, .slice none 0 0, .int .i64 0] 25) := ⟨_, rfl⟩;rw [← x1];obtain ⟨W2, x2⟩ : ∃ W, W = W1.alloc (.cells #[.int .i64 0, .slice none 0 0, .slice none 0 0] 35) := ⟨_, rfl⟩;rw [← x2];obtain ⟨W3, x3⟩ : ∃ W, W = W2.alloc (.cells #[.int .i64 10, .int .i64 1, .int .i64 25] 99) := ⟨_, rfl⟩;rw [← x3];obtain ⟨W4, x4⟩ : ∃ W, W = W3.alloc (.cells #[.int .i64 0] 3) := ⟨_, rfl⟩;rw [← x4];obtain ⟨W5, x5⟩ : ∃ W, W = W4.alloc (.cells #[.int .i64 900, .slice (some ⟨b3, 0, none⟩) 1 1] 83) := ⟨_, rfl⟩;rw [← x5];obtain ⟨W6, x6⟩ : ∃ W, W = W5.alloc (.cells #[.slice (some ⟨b2, 0, none⟩) 1 1, .slice (some ⟨b4, 0, none⟩) 1 1, .int .i64 3] 25) := ⟨_, rfl⟩;rw [← x6];obtain ⟨W7, x7⟩ : ∃ W, W = W6.alloc (.cells #[.int .i64 2, .int .i64 0, .bool false, .int .i64 800, .int .i64 60, .int .i64 1, .int .i64 20, .int .i64 0, .bool true, .int .i64 800, .int .i64 60, .int .i64 1] 124) := ⟨_, rfl⟩;rw [← x7];obtain ⟨W8, x8⟩ : ∃ W, W = W7.alloc (.cells #[.int .i64 19, .int .i64 0, .int .i64 2] 126) := ⟨_, rfl⟩;rw [← x8];obtain ⟨W9, x9⟩ : ∃ W, W = W8.alloc (.cells #[.int .i64 24, .slice (some ⟨b6, 0, none⟩) 2 2, .slice (some ⟨b7, 0, none⟩) 1 1] 35) := ⟨_, rfl⟩;rw [← x9];have s1 : W1.heap.size = w.heap.size + 1 := by rw [x1, World.size_alloc]
  have h0 : W1.heap[b0]? = some (.cells #[.slice none 0 0, .slice none 0 0, .int .i64 0] 25 (0, 0)) := by rw [x1, show b0 = w.heap.size from by omega]; exact heap_alloc_new _ _
  replace h0 := hA_ h0 (.cells #[.int .i64 0, .slice none 0 0, .slice none 0 0] 35)
  rw [← x2] at h0
  replace h0 := hA_ h0 (.cells #[.int .i64 10, .int .i64 1, .int .i64 25] 99)
  rw [← x3] at h0
  replace h0 := hA_ h0 (.cells #[.int .i64 0] 3)
  rw [← x4] at h0
  replace h0 := hA_ h0 (.cells #[.int .i64 900, .slice (some ⟨b3, 0, none⟩) 1 1] 83)
  rw [← x5] at h0
  replace h0 := hA_ h0 (.cells #[.slice (some ⟨b2, 0, none⟩) 1 1, .slice (some ⟨b4, 0, none⟩) 1 1, .int .i64 3] 25)
  rw [← x6] at h0
  replace h0 := hA_ h0 (.cells #[.int .i64 2, .int .i64 0, .bool false, .int .i64 800, .int .i64 60, .int .i64 1, .int .i64 20, .int .i64 0, .bool true, .int .i64 800, .int .i64 60, .int .i64 1] 124)
  rw [← x7] at h0
  replace h0 := hA_ h0 (.cells #[.int .i64 19, .int .i64 0, .int .i64 2] 126)
  rw [← x8] at h0
  replace h0 := hA_ h0 (.cells #[.int .i64 24, .slice (some ⟨b6, 0, none⟩) 2 2, .slice (some ⟨b7, 0, none⟩) 1 1] 35)
  rw [← x9] at h0;have s2 : W2.heap.size = W1.heap.size + 1 := by rw [x2, World.size_alloc]
  have h1 : W2.heap[b1]? = some (.cells #[.int .i64 0, .slice none 0 0, .slice none 0 0] 35 (0, 0)) := by rw [x2, show b1 = W1.heap.size from by omega]; exact heap_alloc_new _ _
  replace h1 := hA_ h1 (.cells #[.int .i64 10, .int .i64 1, .int .i64 25] 99)
  rw [← x3] at h1
  replace h1 := hA_ h1 (.cells #[.int .i64 0] 3)
  rw [← x4] at h1
  replace h1 := hA_ h1 (.cells #[.int .i64 900, .slice (some ⟨b3, 0, none⟩) 1 1] 83)
  rw [← x5] at h1
  replace h1 := hA_ h1 (.cells #[.slice (some ⟨b2, 0, none⟩) 1 1, .slice (some ⟨b4, 0, none⟩) 1 1, .int .i64 3] 25)
  rw [← x6] at h1
  replace h1 := hA_ h1 (.cells #[.int .i64 2, .int .i64 0, .bool false, .int .i64 800, .int .i64 60, .int .i64 1, .int .i64 20, .int .i64 0, .bool true, .int .i64 800, .int .i64 60, .int .i64 1] 124)
  rw [← x7] at h1
  replace h1 := hA_ h1 (.cells #[.int .i64 19, .int .i64 0, .int .i64 2] 126)
  rw [← x8] at h1
  replace h1 := hA_ h1 (.cells #[.int .i64 24, .slice (some ⟨b6, 0, none⟩) 2 2, .slice (some ⟨b7, 0, none⟩) 1 1] 35)
  rw [← x9] at h1;have s3 : W3.heap.size = W2.heap.size + 1 := by rw [x3, World.size_alloc]
  have h2 : W3.heap[b2]? = some (.cells #[.int .i64 10, .int .i64 1, .int .i64 25] 99 (0, 0)) := by rw [x3, show b2 = W2.heap.size from by omega]; exact heap_alloc_new _ _
  replace h2 := hA_ h2 (.cells #[.int .i64 0] 3)
  rw [← x4] at h2
  replace h2 := hA_ h2 (.cells #[.int .i64 900, .slice (some ⟨b3, 0, none⟩) 1 1] 83)
  rw [← x5] at h2
  replace h2 := hA_ h2 (.cells #[.slice (some ⟨b2, 0, none⟩) 1 1, .slice (some ⟨b4, 0, none⟩) 1 1, .int .i64 3] 25)
  rw [← x6] at h2
  replace h2 := hA_ h2 (.cells #[.int .i64 2, .int .i64 0, .bool false, .int .i64 800, .int .i64 60, .int .i64 1, .int .i64 20, .int .i64 0, .bool true, .int .i64 800, .int .i64 60, .int .i64 1] 124)
  rw [← x7] at h2
  replace h2 := hA_ h2 (.cells #[.int .i64 19, .int .i64 0, .int .i64 2] 126)
  rw [← x8] at h2
  replace h2 := hA_ h2 (.cells #[.int .i64 24, .slice (some ⟨b6, 0, none⟩) 2 2, .slice (some ⟨b7, 0, none⟩) 1 1] 35)
  rw [← x9] at h2;have s4 : W4.heap.size = W3.heap.size + 1 := by rw [x4, World.size_alloc]
  have h3 : W4.heap[b3]? = some (.cells #[.int .i64 0] 3 (0, 0)) := by rw [x4, show b3 = W3.heap.size from by omega]; exact heap_alloc_new _ _
  replace h3 := hA_ h3 (.cells #[.int .i64 900, .slice (some ⟨b3, 0, none⟩) 1 1] 83)
  rw [← x5] at h3
  replace h3 := hA_ h3 (.cells #[.slice (some ⟨b2, 0, none⟩) 1 1, .slice (some ⟨b4, 0, none⟩) 1 1, .int .i64 3] 25)
  rw [← x6] at h3
  replace h3 := hA_ h3 (.cells #[.int .i64 2, .int .i64 0, .bool false, .int .i64 800, .int .i64 60, .int .i64 1, .int .i64 20, .int .i64 0, .bool true, .int .i64 800, .int .i64 60, .int .i64 1] 124)
  rw [← x7] at h3
  replace h3 := hA_ h3 (.cells #[.int .i64 19, .int .i64 0, .int .i64 2] 126)
  rw [← x8] at h3
  replace h3 := hA_ h3 (.cells #[.int .i64 24, .slice (some ⟨b6, 0, none⟩) 2 2, .slice (some ⟨b7, 0, none⟩) 1 1] 35)
  rw [← x9] at h3;have s5 : W5.heap.size = W4.heap.size + 1 := by rw [x5, World.size_alloc]
  have h4 : W5.heap[b4]? = some (.cells #[.int .i64 900, .slice (some ⟨b3, 0, none⟩) 1 1] 83 (0, 0)) := by rw [x5, show b4 = W4.heap.size from by omega]; exact heap_alloc_new _ _
  replace h4 := hA_ h4 (.cells #[.slice (some ⟨b2, 0, none⟩) 1 1, .slice (some ⟨b4, 0, none⟩) 1 1, .int .i64 3] 25)
  rw [← x6] at h4
  replace h4 := hA_ h4 (.cells #[.int .i64 2, .int .i64 0, .bool false, .int .i64 800, .int .i64 60, .int .i64 1, .int .i64 20, .int .i64 0, .bool true, .int .i64 800, .int .i64 60, .int .i64 1] 124)
  rw [← x7] at h4
  replace h4 := hA_ h4 (.cells #[.int .i64 19, .int .i64 0, .int .i64 2] 126)
  rw [← x8] at h4
  replace h4 := hA_ h4 (.cells #[.int .i64 24, .slice (some ⟨b6, 0, none⟩) 2 2, .slice (some ⟨b7, 0, none⟩) 1 1] 35)
  rw [← x9] at h4;have s6 : W6.heap.size = W5.heap.size + 1 := by rw [x6, World.size_alloc]
  have h5 : W6.heap[b5]? = some (.cells #[.slice (some ⟨b2, 0, none⟩) 1 1, .slice (some ⟨b4, 0, none⟩) 1 1, .int .i64 3] 25 (0, 0)) := by rw [x6, show b5 = W5.heap.size from by omega]; exact heap_alloc_new _ _
  replace h5 := hA_ h5 (.cells #[.int .i64 2, .int .i64 0, .bool false, .int .i64 800, .int .i64 60, .int .i64 1, .int .i64 20, .int .i64 0, .bool true, .int .i64 800, .int .i64 60, .int .i64 1] 124)
  rw [← x7] at h5
  replace h5 := hA_ h5 (.cells #[.int .i64 19, .int .i64 0, .int .i64 2] 126)
  rw [← x8] at h5
  replace h5 := hA_ h5 (.cells #[.int .i64 24, .slice (some ⟨b6, 0, none⟩) 2 2, .slice (some ⟨b7, 0, none⟩) 1 1] 35)
  rw [← x9] at h5;have s7 : W7.heap.size = W6.heap.size + 1 := by rw [x7, World.size_alloc]
  have h6 : W7.heap[b6]? = some (.cells #[.int .i64 2, .int .i64 0, .bool false, .int .i64 800, .int .i64 60, .int .i64 1, .int .i64 20, .int .i64 0, .bool true, .int .i64 800, .int .i64 60, .int .i64 1] 124 (0, 0)) := by rw [x7, show b6 = W6.heap.size from by omega]; exact heap_alloc_new _ _
  replace h6 := hA_ h6 (.cells #[.int .i64 19, .int .i64 0, .int .i64 2] 126)
  rw [← x8] at h6
  replace h6 := hA_ h6 (.cells #[.int .i64 24, .slice (some ⟨b6, 0, none⟩) 2 2, .slice (some ⟨b7, 0, none⟩) 1 1] 35)
  rw [← x9] at h6;have s8 : W8.heap.size = W7.heap.size + 1 := by rw [x8, World.size_alloc]
  have h7 : W8.heap[b7]? = some (.cells #[.int .i64 19, .int .i64 0, .int .i64 2] 126 (0, 0)) := by rw [x8, show b7 = W7.heap.size from by omega]; exact heap_alloc_new _ _
  replace h7 := hA_ h7 (.cells #[.int .i64 24, .slice (some ⟨b6, 0, none⟩) 2 2, .slice (some ⟨b7, 0, none⟩) 1 1] 35)
  rw [← x9] at h7;have s9 : W9.heap.size = W8.heap.size + 1 := by rw [x9, World.size_alloc]
  have h8 : W9.heap[b8]? = some (.cells #[.int .i64 24, .slice (some ⟨b6, 0, none⟩) 2 2, .slice (some ⟨b7, 0, none⟩) 1 1] 35 (0, 0)) := by rw [x9, show b8 = W8.heap.size from by omega]; exact heap_alloc_new _ _
  have bb : Below w.heap.size w W9 := by
    rw [x9, x8, x7, x6, x5, x4, x3, x2, x1];exact ((((((((((Below.refl _ _).alloc (Nat.le_refl _) _).alloc (by simp <;> omega) _).alloc (by simp <;> omega) _).alloc (by simp <;> omega) _).alloc (by simp <;> omega) _).alloc (by simp <;> omega) _).alloc (by simp <;> omega) _).alloc (by simp <;> omega) _).alloc (by simp <;> omega) _)
  have hord : b0 < b1 ∧ b1 < b2 ∧ b2 < b3 ∧ b3 < b4 ∧ b4 < b5 ∧ b5 < b6 ∧ b6 < b7 ∧ b7 < b8 ∧ w.heap.size = b0 := by omega
  have qp0 : W9.cell? ⟨b5, 0, none⟩ = some (.slice (some ⟨b2, 0, none⟩) 1 1) := (cOH h5 0).trans rfl;have qp1 : W9.cell? ⟨b5, 1, none⟩ = some (.slice (some ⟨b4, 0, none⟩) 1 1) := (cOH h5 1).trans rfl;have qp2 : W9.cell? ⟨b5, 2, none⟩ = some (.int .i64 3) := (cOH h5 2).trans rfl;have ql0 : W9.cell? ⟨b8, 0, none⟩ = some (.int .i64 24) := (cOH h8 0).trans rfl;have ql1 : W9.cell? ⟨b8, 1, none⟩ = some (.slice (some ⟨b6, 0, none⟩) 2 2) := (cOH h8 1).trans rfl;have ql2 : W9.cell? ⟨b8, 2, none⟩ = some (.slice (some ⟨b7, 0, none⟩) 1 1) := (cOH h8 2).trans rfl;have z5 := hL_ h5;have z8 := hL_ h8;have H := Lib.hid (And.intro h2 (And.intro h3 (And.intro h4 (And.intro h6 (And.intro h7 bb)))));clear e0 e1 e2 e3 e4 e5 e6 e7 e8 x1 x2 x3 x4 x5 x6 x7 x8 x9 s1 s2 s3 s4 s5 s6 s7 s8 s9 h2 h3 h4 h5 h6 h7 h8 bb;refine wRS (σ := Unit) (by kernel_rfl) (by kernel_rfl) (fun _ jx vx _ => ExV W9 b0 b1 b2 b4 b5 b6 b7 b8 jx vx) (fun _ ly wx => ExW W9 b0 b1 b2 b4 b5 b6 b7 b8 ly wx) () ?_ ?_ ?_
  · exact ⟨(Keep.refl _ _).drew, h0, h1⟩
  · simp only [AllFrom, Nat.zero_add, Nat.reduceAdd];refine ⟨?_, ?_, ?_, ?_, trivial⟩
    · refine sP_ fun sg ly a wr hl hd hW hF => ?_;have et2 := hF.old 2 (by kernel_rfl);simp [Act.eval] at et2;have c0 := hW.1.cell qp0 (by simp; omega);have c1 := hW.1.cell qp1 (by simp; omega);have c2 := hW.1.cell qp2 (by simp; omega);exact ⟨by simpa [ExW, upd] using hW, .agg #[.slice (some ⟨b2, 0, none⟩) 1 1, .slice (some ⟨b4, 0, none⟩) 1 1, .int .i64 3], by go_simp, rfl⟩
    · refine sP_ fun sg ly a wr hl hd hW hF => ?_;have et3 := hF.old 3 (by kernel_rfl);simp [Act.eval] at et3;have c0 := hW.1.cell ql0 (by simp; omega);have c1 := hW.1.cell ql1 (by simp; omega);have c2 := hW.1.cell ql2 (by simp; omega);exact ⟨by simpa [ExW, upd] using hW, .agg #[.int .i64 24, .slice (some ⟨b6, 0, none⟩) 2 2, .slice (some ⟨b7, 0, none⟩) 1 1], by go_simp, rfl⟩
    · refine sS_ rfl fun sg ly a wr hl hd hW hF => ?_;simp [Region.binds] at hd;have et0 := hF.old 0 (by kernel_rfl);simp [Act.eval] at et0;have et16 := hF.new 0 16 (by simp [hd]) rfl;simp [ExV, Act.eval] at et16;obtain ⟨h0, h1, h2⟩ := hW;rw [if_neg (by simp [hl])] at h1;have c0 := (cOH h1 0).trans rfl;have c1 := (cOH h1 1).trans rfl;have c2 := (cOH h1 2).trans rfl;have f0 := fOH h1 0;have f1 := fOH h1 1;have f2 := fOH h1 2;have z0 := hL_ h1;refine ⟨((wr.setCell ⟨b0, 0, none⟩ (.slice (some ⟨b2, 0, none⟩) 1 1)).setCell ⟨b0, 1, none⟩ (.slice (some ⟨b4, 0, none⟩) 1 1)).setCell ⟨b0, 2, none⟩ (.int .i64 3), (), .skip, by go_simp, .inl rfl, ⟨((h0.setCell (.inl (by simp)) _).setCell (.inl (by simp)) _).setCell (.inl (by simp)) _, by rw [if_pos (by simp [upd])]; exact st3_heap' h1 _ _ _, hSN (hSN (hSN h2 (by simp only; omega) _) (by simp only; omega) _) (by simp only; omega) _⟩, fun _ _ _ h => h⟩
    · refine sS_ rfl fun sg ly a wr hl hd hW hF => ?_;simp [Region.binds] at hd;have et1 := hF.old 1 (by kernel_rfl);simp [Act.eval] at et1;have et17 := hF.new 1 17 (by simp [hd]) rfl;simp [ExV, Act.eval] at et17;obtain ⟨h0, h1, h2⟩ := hW;rw [if_neg (by simp [hl])] at h2;have c0 := (cOH h2 0).trans rfl;have c1 := (cOH h2 1).trans rfl;have c2 := (cOH h2 2).trans rfl;have f0 := fOH h2 0;have f1 := fOH h2 1;have f2 := fOH h2 2;have z0 := hL_ h2;refine ⟨((wr.setCell ⟨b1, 0, none⟩ (.int .i64 24)).setCell ⟨b1, 1, none⟩ (.slice (some ⟨b6, 0, none⟩) 2 2)).setCell ⟨b1, 2, none⟩ (.slice (some ⟨b7, 0, none⟩) 1 1), (), .skip, by go_simp, .inl rfl, ⟨((h0.setCell (.inl (by simp)) _).setCell (.inl (by simp)) _).setCell (.inl (by simp)) _, hSN (hSN (hSN h1 (by simp only; omega) _) (by simp only; omega) _) (by simp only; omega) _, by rw [if_pos (by simp [upd])]; exact st3_heap' h2 _ _ _⟩, fun _ _ _ h => h⟩
  intro _ a w3 hWW hF;obtain ⟨f3, hf3, rfl⟩ := hF.lit;obtain ⟨k3, r0, r1⟩ : Keep [b0, b1] W9 w3 ∧ w3.heap[b0]? = some (.cells #[.slice (some ⟨b2, 0, none⟩) 1 1, .slice (some ⟨b4, 0, none⟩) 1 1, .int .i64 3] 25 (0, 0)) ∧ w3.heap[b1]? = some (.cells #[.int .i64 24, .slice (some ⟨b6, 0, none⟩) 2 2, .slice (some ⟨b7, 0, none⟩) 1 1] 35 (0, 0)) := by simpa [ExW] using hWW
  clear hf3 hF hWW;simp only [List.filterMap, List.foldl, List.setIfInBounds_toArray, List.set_cons_succ, List.set_cons_zero];have HK := Lib.hid (And.intro k3 (And.intro r0 r1));clear k3 r0 r1;go_wp2_with fail
  refine bodyPost_ret (ex_results rfl HK.out.2.1 HK.out.2.2 _ rfl rfl ⟨_, _, _, rfl⟩ ⟨_, _, _, rfl⟩ ⟨_, rfl⟩ ⟨_, rfl⟩ ⟨_, _, _, rfl⟩ ⟨_, _, _, rfl⟩) rfl ?_;obtain ⟨h2, h3, h4, h6, h7, bb⟩ := H.out;have K : ∀ {x : Nat} {o : Obj}, W9.heap[x]? = some o → x ≠ b0 → x ≠ b1 → w3.heap[x]? = some o := fun hx n0 n1 => (HK.out.1.block _ (hL_ hx) (by simp; exact ⟨n0, n1⟩)).trans hx;have g2 := K h2 (by omega) (by omega);have g3 := K h3 (by omega) (by omega);have g4 := K h4 (by omega) (by omega);have g6 := K h6 (by omega) (by omega);have g7 := K h7 (by omega) (by omega);have hpath : PathB w3.heap.size w3 (some ⟨b3, 0, none⟩) 1 [0] := ⟨⟨rfl, fun _ => ⟨b3, 0, rfl, hL_ g3, fun j u hu => (cOH g3 _).trans (by simpa [ints] using hu)⟩⟩, by simp, by decide, by simp⟩;refine ⟨b2, b3, b4, b6, b7, rfl, ⟨⟨rfl, fun _ => ⟨b2, 0, rfl, hL_ g2, fun j u hu => (cOH g2 _).trans (by simpa [exPrt, chcs, chc] using hu)⟩⟩, ?_, ⟨by decide, by decide, by simp⟩, ⟨by decide, by decide, by simp⟩⟩, ⟨⟨rfl, fun _ => ⟨b6, 0, rfl, hL_ g6, fun j u hu => (cOH g6 _).trans (by simpa [exPln, cacs, cac] using hu)⟩⟩, ⟨rfl, fun _ => ⟨b7, 0, rfl, hL_ g7, fun j u hu => (cOH g7 _).trans (by simpa [exPln, swcs, swc] using hu)⟩⟩, ⟨by decide, by decide, by simp⟩, ⟨by decide, by decide, by simp⟩⟩, g4, hpath, ⟨by omega, by omega, by omega⟩, bb.trans (HK.out.1.below bb.size (by simp; omega))⟩;intro k hk;obtain rfl : k = 0 := by simp [exPrt] at hk; omega
  exact ⟨b4, 0, some ⟨b3, 0, none⟩, 1, rfl, hL_ g4, (cOH g4 0).trans rfl, (cOH g4 1).trans rfl, ⟨rfl, fun _ => ⟨b3, 0, rfl, hL_ g3, fun j u hu => (cOH g3 _).trans (by simpa [exPrt, ints] using hu)⟩⟩, by simp [exPrt], by decide, by simp⟩
end Go.Proofs.YtalcinepeofmcaaGreat
namespace Go.Proofs.YtalcinepeofmcaaGreat
open Go Go.RowKit Sp Pt
def exStt : Stt := ⟨[30], [false]⟩
def exPln2 : Pln := ⟨24, [⟨2, 0, false, 800, 60, 1⟩, ⟨20, 0, true, 800, 60, 1⟩], []⟩
def exPrt2 : Prt := ⟨[⟨10, 1, 25⟩], [⟨900, [0]⟩, ⟨700, [0]⟩], 3⟩
def exVs : List Vst := [⟨0, 10, 8, 600⟩, ⟨1, 4, 5, 800⟩, ⟨2, 20, 3, 650⟩]
set_option maxRecDepth 100000
theorem ex_runE : runE exPrt exStt exPln = 0 := by decide +kernel
theorem ex_runI : runI exPrt exStt exPln = 2 := by decide +kernel
theorem ex_runV : (runV exPrt exStt exPln).brash = [24] ∧ (runV exPrt exStt exPln).busy = [false] := by decide +kernel
theorem ex_foldE : foldE exPrt exPln 0 = 0 := by decide +kernel
theorem ex_foldV : foldVal exPrt exPln 0 = ⟨-6, 15, 58⟩ := by decide +kernel
theorem ex_staysE : staysE exPrt exPln = 0 := by decide +kernel
theorem ex_staysV : staysV exPrt exPln = [58] := by decide +kernel
theorem ex_wornE : wornE exPrt exPln2 = 0 := by decide +kernel
theorem ex_wornV : wornV exPrt exPln2 = 1 ∧ wornA exPrt exPln2 = 0 := by decide +kernel
theorem ex_bestE : bestE exPrt2 exVs = 0 := by decide +kernel
theorem ex_bestN : bestN exPrt2 exVs = 4 := by decide +kernel
theorem ex_bestV : bestV exPrt2 exVs = [⟨1, 0⟩, ⟨0, 1⟩, ⟨0, 6⟩] := by decide +kernel
abbrev exPV (b2 b4 : Nat) : Value := .agg #[.slice (some ⟨b2, 0, none⟩) 1 1, .slice (some ⟨b4, 0, none⟩) 1 1, .int .i64 3]
abbrev exLV (b6 b7 : Nat) : Value := .agg #[.int .i64 24, .slice (some ⟨b6, 0, none⟩) 2 2, .slice (some ⟨b7, 0, none⟩) 1 1]
structure ExM (D b2 b4 b6 b7 : Nat) (w : World) : Prop where
  PB : PrtB D w (some ⟨b2, 0, none⟩) 1 (some ⟨b4, 0, none⟩) 1 exPrt
  LB : PlnB D w (some ⟨b6, 0, none⟩) 2 (some ⟨b7, 0, none⟩) 1 exPln
  hD : D ≤ w.heap.size
theorem ExM.keep {D b2 b4 b6 b7 : Nat} {w w' : World} (h : ExM D b2 b4 b6 b7 w) {S : List Nat} (hk : Keep S w w') (hS : ∀ x ∈ S, D ≤ x) : ExM D b2 b4 b6 b7 w' :=
  ⟨h.PB.below (hk.below h.hD hS), h.LB.below (hk.below h.hD hS), Nat.le_trans h.hD hk.size⟩
theorem exa_ex (w : World) : Calls Tryz.prog 27 #[] w fun e w' => ∃ b2 b3 b4 b6 b7, e = .returned (.tuple #[exPV b2 b4, exLV b6 b7]) ∧ ExM w'.heap.size b2 b4 b6 b7 w' ∧ w'.heap[b4]? = some (.cells #[.int .i64 900, .slice (some ⟨b3, 0, none⟩) 1 1] 83 (0, 0)) ∧ PathB w'.heap.size w' (some ⟨b3, 0, none⟩) 1 [0] ∧ (b2 < b3 ∧ b3 < b4 ∧ w.heap.size ≤ b2) ∧ Below w.heap.size w w' := by
  refine (ExampleP_any w).mono ?_;rintro e w' ⟨b2, b3, b4, b6, b7, rfl, PB, LB, hb, hp, ho, bw⟩;exact ⟨b2, b3, b4, b6, b7, rfl, ⟨PB, LB, Nat.le_refl _⟩, hb, hp, ho, bw⟩
section
variable {D b2 b4 b6 b7 : Nat} {w : World} (h : ExM D b2 b4 b6 b7 w)
include h
theorem run_ex (g u : Nat) (hg : w.heap[g]? = some (.cells #[.int .i64 30] 3 (0, 0))) (hu : w.heap[u]? = some (.cells #[.bool false] 4 (0, 0))) :
    Calls Tryz.prog 28 #[exPV b2 b4, .agg #[.slice (some ⟨g, 0, none⟩) 1 1, .slice (some ⟨u, 0, none⟩) 1 1], exLV b6 b7] w fun e w' => ∃ A c B d, e = .returned (.tuple #[.agg #[.slice A 1 c, .slice B 1 d], .int .i64 2, .int .i64 0]) ∧ Rd w' 1 A 1 (ints [24]) ∧ Below w.heap.size w w' ∧ FreshA w A := by
  refine (Run_any w.heap.size _ _ _ _ exPrt _ _ _ _ exPln (some ⟨g, 0, none⟩) 1 (some ⟨u, 0, none⟩) 1 exStt w (h.PB.mono h.hD) (h.LB.mono h.hD) ⟨⟨rfl, fun _ => ⟨g, 0, rfl, hL_ hg, fun j u hu => (cOH hg _).trans (by simpa [exStt, ints] using hu)⟩⟩, ⟨rfl, fun _ => ⟨u, 0, rfl, hL_ hu, fun j v hv => (cOH hu _).trans (by simpa [exStt, bools] using hv)⟩⟩, ⟨by decide, by decide, by simp⟩, ⟨by decide, by decide, by simp⟩⟩ (Nat.le_refl _)).mono ?_;rintro e w' ⟨A, c, B, d, rfl, SB, bw, fA, _⟩;rw [ex_runE, ex_runI];have h1 := SB.br;obtain ⟨e1, e2⟩ := ex_runV;refine ⟨A, c, B, d, ?_, ?_, bw, fA⟩
  · simp only [sttV, e1, e2]; rfl
  · have := h1.rd (Nat.le_refl _);rw [e1] at this;exact this
theorem fold_ex : Calls Tryz.prog 29 #[exPV b2 b4, exLV b6 b7, .int .i64 0] w fun e w' => e = .returned (.tuple #[.agg #[.int .i64 (-6), .int .i64 15, .int .i64 58], .int .i64 0]) ∧ Below w.heap.size w w' := by
  refine (Fold_any D _ _ _ _ exPrt _ _ _ _ exPln 0 w h.PB h.LB h.hD).mono ?_;rintro e w' ⟨rfl, bw⟩;rw [ex_foldE, ex_foldV];exact ⟨rfl, bw⟩
theorem stays_ex : Calls Tryz.prog 30 #[exPV b2 b4, exLV b6 b7] w fun e w' => ∃ A c, e = .returned (.tuple #[.slice A 1 c, .int .i64 0]) ∧ Rd w' 1 A 1 (ints [58]) ∧ Below w.heap.size w w' ∧ FreshA w A := by
  refine (Stays_any D _ _ _ _ exPrt _ _ _ _ exPln w h.PB h.LB h.hD).mono ?_;rintro e w' ⟨A, c, q, rfl, o1, o2, bw⟩;rw [ex_staysV] at o1;rw [ex_staysE, ex_staysV];refine ⟨A, c, rfl, o1.rd, bw, fun b o h => ?_⟩;obtain ⟨g, off, e1, e2, _⟩ := o1.some_ (by decide);rw [h] at e1;injection e1 with e1
  injection e1 with e1 _ _
  rw [e1];exact o2 g (by rw [e2]; simp)
theorem worn_ex : Calls Tryz.prog 31 #[exPV b2 b4, .agg #[.int .i64 24, .slice (some ⟨b6, 0, none⟩) 2 2, .slice none 0 0]] w fun e w' => e = .returned (.tuple #[.int .i64 1, .int .i64 0, .int .i64 0]) ∧ Below w.heap.size w w' := by
  refine (Worn_any D _ _ _ _ exPrt (some ⟨b6, 0, none⟩) 2 none 0 exPln2 w h.PB ⟨h.LB.calls, ⟨rfl, fun h => absurd h (by decide)⟩, h.LB.c1, ⟨by decide, by decide, fun _ => rfl⟩⟩ h.hD).mono ?_;rintro e w' ⟨rfl, bw⟩;rw [ex_wornE, ex_wornV.1, ex_wornV.2];exact ⟨rfl, bw⟩
end
theorem best_ex {D b2 b5 c5 v : Nat} {w : World} (PB : PrtB D w (some ⟨b2, 0, none⟩) 1 (some ⟨b5, 0, none⟩) c5 exPrt2) (hD : D ≤ w.heap.size) (hv : w.heap[v]? = some (.cells #[.int .i64 0, .int .i64 10, .int .i64 8, .int .i64 600, .int .i64 1, .int .i64 4, .int .i64 5, .int .i64 800, .int .i64 2, .int .i64 20, .int .i64 3, .int .i64 650] 44 (0, 0))) (hvD : v < D) :
    Calls Tryz.prog 14 #[.agg #[.slice (some ⟨b2, 0, none⟩) 1 1, .slice (some ⟨b5, 0, none⟩) 2 c5, .int .i64 3], .slice (some ⟨v, 0, none⟩) 3 3] w fun e w' => ∃ A c, e = .returned (.tuple #[.slice A 3 c, .int .i64 4, .int .i64 0]) ∧ Rd w' 2 A 3 (plcs [⟨1, 0⟩, ⟨0, 1⟩, ⟨0, 6⟩]) ∧ Below w.heap.size w w' := by
  refine (Best_any D _ _ _ _ exPrt2 (some ⟨v, 0, none⟩) 3 exVs w PB ⟨rfl, fun _ => ⟨v, 0, rfl, hvD, fun j u hu => (cOH hv _).trans (by simpa [exVs, vscs, vsc] using hu)⟩⟩ hD).mono ?_;rintro e w' ⟨A, c, rfl, o1, o2, bw⟩;rw [ex_bestV] at o1;rw [ex_bestE, ex_bestN, ex_bestV];exact ⟨A, c, rfl, o1, bw⟩
end Go.Proofs.YtalcinepeofmcaaGreat
