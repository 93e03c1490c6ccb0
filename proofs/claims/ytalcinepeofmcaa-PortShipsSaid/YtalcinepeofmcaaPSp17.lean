import Derived.Test.YtalcinepeofmcaaPSp16
import Derived.Test.YtalcinepeofmcaaPSp8
import Derived.Test.YtalcinepeofmcaaPSp9
set_option linter.unusedVariables false
set_option linter.unusedSimpArgs false
set_option maxRecDepth 100000
set_option maxHeartbeats 40000000
namespace Go.Proofs.Ytalcinepeofmcaa
open Go Go.RowKit Go.Lib Sp Pt
theorem infoCal9 : (Try.prog.info? 52).map (fun i => (i.zero, i.size, i.bytes)) = some (some (.agg #[.int .i64 0, .int .i64 0, .bool false, .int .i64 0, .int .i64 0, .int .i64 0]), 6, 48) := by kernel_rfl
theorem infoSwp9 : (Try.prog.info? 65).map (fun i => (i.zero, i.size, i.bytes)) = some (some (.agg #[.int .i64 0, .int .i64 0, .int .i64 0]), 3, 24) := by kernel_rfl
def Pd9Cnt (l : Nat → Bool) : Nat := (if l 9 then 1 else 0) + (if l 12 then 1 else 0) + (if l 19 then 1 else 0)
def Pd15Cnt (l : Nat → Bool) : Nat := (if l 3 then 1 else 0) + (if l 8 then 1 else 0)
def Pd9V (ib lb pb ob ub nb : Nat) (h tg mt : Int) (b : Nat) (bz : Bool) (x0 x1 x2 : Int) (k : Nat) (A : Option Addr) (c : Nat) (s : ApS) : Nat → Value → Prop
  | 0, v => v = .pointer (some ⟨ob, 1, none⟩)
  | 1, v => v = .slice A k c
  | 2, v => v = .int .i64 h
  | 3, v => v = .int .i64 b
  | 4, v => v = .slice (some ⟨ub, 0, none⟩) nb nb
  | 5, v => v = .int .i64 b
  | 6, v => v = .pointer (some ⟨ub, b, none⟩)
  | 7, v => v = .bool bz
  | 8, v => v = .func (.func 24) #[] #[.pointer (some ⟨ib, 0, none⟩), .pointer (some ⟨lb, 0, none⟩)]
  | 9, v => v = .int .i64 x0
  | 10, v => v = .int .i64 (10 + x0)
  | 11, v => v = .func (.func 24) #[] #[.pointer (some ⟨ib, 0, none⟩), .pointer (some ⟨lb, 0, none⟩)]
  | 12, v => v = .int .i64 x1
  | 13, v => v = .int .i64 (10 + x1)
  | 14, v => v = .func (.func 24) #[] #[.pointer (some ⟨ib, 0, none⟩), .pointer (some ⟨lb, 0, none⟩)]
  | 15, v => v = .pointer (some ⟨pb, 2, none⟩)
  | 16, v => v = .int .i64 tg
  | 17, v => v = .int .i64 mt
  | 18, v => v = .int .i64 (mt + 1)
  | 19, v => v = .int .i64 x2
  | 20, v => v = .agg #[.int .i64 h, .int .i64 b, .bool bz, .int .i64 (10 + x0), .int .i64 (10 + x1), .int .i64 x2]
  | 21, v => v = .slice (some ⟨s.bs, 0, none⟩) 1 1
  | 22, v => v = .slice s.A (k + 1) s.c
  | 23, v => v = .pointer (some ⟨ob, 1, none⟩)
  | _, _ => True
def Pd15V (ib lb pb ob : Nat) (hours : Int) (Ac : Option Addr) (n : Nat) (cc : Nat) (x0 x1 : Int) (s : Nat) : Nat → Value → Prop
  | 0, v => v = .func (.func 24) #[] #[.pointer (some ⟨ib, 0, none⟩), .pointer (some ⟨lb, 0, none⟩)]
  | 1, v => v = .pointer (some ⟨ob, 0, none⟩)
  | 2, v => v = .int .i64 hours
  | 3, v => v = .int .i64 x0
  | 4, v => v = .func (.func 24) #[] #[.pointer (some ⟨ib, 0, none⟩), .pointer (some ⟨lb, 0, none⟩)]
  | 5, v => v = .pointer (some ⟨pb, 0, none⟩)
  | 6, v => v = .slice Ac n cc
  | 7, v => v = .int .i64 n
  | 8, v => v = .int .i64 x1
  | 9, v => v = .agg #[.int .i64 x0, .int .i64 x1, .int .i64 0]
  | 10, v => v = .pointer (some ⟨s, 0, none⟩)
  | _, _ => True
def PlanOwn (w : World) (p : Prt) (e : Ending) (w' : World) : Prop := ∃ Al cl As cs l q1 q2, e = .returned (.agg (plnV Al cl As cs l)) ∧ MdL p l ∧ OwnS w' 52 6 Al l.calls.length cl (cacs l.calls) q1 ∧ OwnS w' 65 3 As l.swps.length cs (swcs l.swps) q2 ∧ (∀ x ∈ q1, w.heap.size ≤ x) ∧ (∀ x ∈ q2, w.heap.size ≤ x) ∧ (∀ x ∈ q1, x ∉ q2) ∧ Below w.heap.size w w'
theorem Planned_own (D : Nat) (Ac : Option Addr) (cc : Nat) (Ab : Option Addr) (cb : Nat) (p : Prt) (A : Option Addr) (c : Nat) (l : List Int) (w : World) (PB : PrtB D w Ac cc Ab cb p) (hp : MdP p) (hD : D ≤ w.heap.size) (hr : Rd w 1 A l.length (byts l)) (hl : Bytes l) (hm : l.length ≤ 9223372036854775806) :
    Calls Try.prog 11 #[.agg (prtV Ac cc Ab cb p), .slice A l.length c] w (PlanOwn w p) := by
  obtain ⟨iC, hC0, hC1, hC2, hC3⟩ := info_parts infoCal9;obtain ⟨iS, hS0, hS1, hS2, hS3⟩ := info_parts infoSwp9;obtain ⟨iB, hB0, hB1, hB2, hB3⟩ := info_parts info_boolP;have hA : 0 < l.length → ∀ b off, A = some ⟨b, off, none⟩ → b < w.heap.size := fun h0 b off e => by
    obtain ⟨b', o', e', hb, _⟩ := hr.2 h0;rw [e] at e';injection e' with e'
    injection e' with e' _ _
    omega
  obtain ⟨W, hW⟩ : ∃ W, W = (w.alloc (.cells (prtV Ac cc Ab cb p) 44)).alloc (.cells #[.int .i64 0, .slice none 0 0, .slice none 0 0] 49) := ⟨_, rfl⟩;obtain ⟨pb, hpb⟩ : ∃ b, b = w.heap.size := ⟨_, rfl⟩;obtain ⟨rb, hrb⟩ : ∃ b, b = w.heap.size + 1 := ⟨_, rfl⟩;have S1 : Own w.heap.size w [.blk pb (.cells (prtV Ac cc Ab cb p) 44 (0, 0)), .blk rb (.cells #[.int .i64 0, .slice none 0 0, .slice none 0 0] 49 (0, 0))] W := by
    have := ((Own.start w).alloc (.cells (prtV Ac cc Ab cb p) 44)).alloc (.cells #[.int .i64 0, .slice none 0 0, .slice none 0 0] 49);rw [hW, hpb, hrb]; simpa using this
  have kd : Calls Try.prog 12 #[.slice A l.length c] W (DrawnPost w.heap.size W) := Drawn_some w.heap.size A c l W (hr.below S1.bel) hl hm S1.lo hA;have HS1 := Lib.hid S1;have HKD := Lib.hid kd;have HPB := Lib.hid (And.intro PB (And.intro hp hD));have hnc := hp.nc;have hnb := hp.nb;have htg := hp.tg;clear S1 kd hr hl hm hA PB hp hD
  go_enter Try.func11, Try.ntmps11
  go_upto_region 1 with fail
  rw [← hW, ← hrb, ← hpb];clear hW hrb hpb;go_upto_region 2 with (go_at_call 12; refine HKD.out.mono ?_; rintro e w1 ⟨ib, lb, rfl, nx1, hib, hlb, b1⟩; have HS2 := Lib.hid (HS1.out.new b1 (i := .nx ib lb) nx1 (by simp [It.fp]; omega)); clear nx1 hib hlb b1)
  go_upto_region 3 with (go_at_call 24; refine (next_some (40) (HS2.out.nxt 2 rfl) (by decide)).mono ?_; rintro e w2 ⟨hx, rfl, ⟨hx1, hx2⟩, nx3, k3, s3⟩; have HS3 := Lib.hid (HS2.out.next 2 rfl nx3 k3); clear nx3 k3 s3)
  obtain ⟨hours, hhr⟩ : ∃ h, h = 4 + hx := ⟨_, rfl⟩;have hhb : 4 ≤ hours ∧ hours ≤ 43 := by omega
  rw [← hhr];clear hhr hx1 hx2;obtain ⟨ob, hob⟩ : ∃ b, b = w2.heap.size := ⟨_, rfl⟩;obtain ⟨X, hX⟩ : ∃ X, X = w2.alloc (.cells #[.int .i64 hours, .slice none 0 0, .slice none 0 0] 49) := ⟨_, rfl⟩;rw [← hX, ← hob];have S4 : Own w.heap.size w [.blk pb (.cells (prtV Ac cc Ab cb p) 44 (0, 0)), .blk rb (.cells #[.int .i64 0, .slice none 0 0, .slice none 0 0] 49 (0, 0)), .nx ib lb, .blk ob (.cells #[.int .i64 hours, .slice (none) (0) (0), .slice (none) (0) (0)] 49 (0, 0))] X := by rw [hX, hob]; exact HS3.out.alloc _
  have HS4 := Lib.hid S4;clear hX hob;have hpc := S4.heap 0 rfl;have p1 : X.cell? ⟨pb, 1, none⟩ = some (.slice Ab p.bts.length cb) := (cOH hpc 1).trans rfl;have zp := hL_ hpc;have mk := run_make_bools (P := Try.prog) 55 4 iB Try.underlying55 hB0 hB1 hB2 hB3 p.bts.length (by omega) X;clear S4 hpc;go_upto_region 4 with fail
  obtain ⟨ub, hub⟩ : ∃ b, b = X.heap.size := ⟨_, rfl⟩;obtain ⟨X4, hX4⟩ : ∃ Y, Y = X.alloc (.cells (falses p.bts.length) 4) := ⟨_, rfl⟩;rw [← hX4, ← hub];have S5 : Own w.heap.size w [.blk pb (.cells (prtV Ac cc Ab cb p) 44 (0, 0)), .blk rb (.cells #[.int .i64 0, .slice none 0 0, .slice none 0 0] 49 (0, 0)), .nx ib lb, .blk ob (.cells #[.int .i64 hours, .slice (none) (0) (0), .slice (none) (0) (0)] 49 (0, 0)), .own 52 6 (none) (0) (0) (cacs []) [], .own 65 3 (none) (0) (0) (swcs []) [], .own 4 1 (some ⟨ub, 0, none⟩) p.bts.length p.bts.length (bools (noB p)) [ub]] X4 := by
    have h1 := HS4.out.new (i := .own 52 6 none 0 0 (cacs []) []) (Below.refl _ _) (OwnS.nil _ _ _) (by simp [It.fp]);have h2 := h1.new (i := .own 65 3 none 0 0 (swcs []) []) (Below.refl _ _) (OwnS.nil _ _ _) (by simp [It.fp]);refine h2.new (w' := X4) (by rw [hX4]; exact (Below.refl _ _).alloc (Nat.le_refl _) _) ?_ (by simp [It.fp]; omega);refine ⟨by simp [bools, noB], .inr ⟨ub, falses p.bts.length, rfl, rfl, by rw [hX4, hub]; exact heap_alloc_new _ _, Nat.le_refl _, by omega, by simp [falses], fun j u hu => by unfold falses; rw [List.getElem?_toArray]; simpa [bools, noB] using hu⟩⟩
  have HS5 := Lib.hid S5;clear mk p1 zp hX4 hub S5;go_upto_region 5 with (go_at_call 24; refine (next_some (3) (HS5.out.nxt 2 rfl) (by decide)).mono ?_; rintro e w5 ⟨hx5, rfl, ⟨hx51, hx52⟩, nx3, k3, s3⟩; have HS6 := Lib.hid (HS5.out.next 2 rfl nx3 k3); clear nx3 k3 s3)
  go_upto_block 0 with (go_at_call 24; refine (next_some (9) (HS6.out.nxt 2 rfl) (by decide)).mono ?_; rintro e w6 ⟨nx0, rfl, ⟨nx01, nx02⟩, nx3, k3, s3⟩; have HS7 := Lib.hid (HS6.out.next 2 rfl nx3 k3); clear nx3 k3 s3)
  obtain ⟨nn, hnn⟩ : ∃ n : Nat, (n : Int) = nx0 := ⟨nx0.toNat, by omega⟩;have hn8 : nn ≤ 8 := by omega
  have hk1 : 0 ≤ hx5 ∧ hx5 ≤ 100 := by omega
  have HP1 := Lib.hid (P1.start HPB.out.2.1 (hours := hours) hk1);rw [← hnn];clear hnn nx01 nx02 hx51 hx52 hk1
  go_cut [8, 9, 30] from 31 to 78 (fun h _ _ wx => ∃ (k : Nat) (calls : List Cal) (busy : List Bool) (hour : Int) (Al : Option Addr) (cl : Nat) (fa : List Nat), k ≤ 8 ∧ calls.length = k ∧ P1 p hours calls busy hour ∧ Own w.heap.size w [.blk pb (.cells (prtV Ac cc Ab cb p) 44 (0, 0)), .blk rb (.cells #[.int .i64 0, .slice none 0 0, .slice none 0 0] 49 (0, 0)), .nx ib lb, .blk ob (.cells #[.int .i64 hours, .slice (Al) (k) (cl), .slice (none) (0) (0)] 49 (0, 0)), .own 52 6 (Al) (k) (cl) (cacs calls) fa, .own 65 3 (none) (0) (0) (swcs []) [], .own 4 1 (some ⟨ub, 0, none⟩) p.bts.length p.bts.length (bools busy) [ub]] wx)
  case first =>
    go_wp2_with fail
    go_loopg [8, 30] nn (fun g hv i wx => ∃ (k : Nat) (calls : List Cal) (busy : List Bool) (hour : Int) (Al : Option Addr) (cl : Nat) (fa : List Nat), g + k = nn ∧ i = .int .i64 k ∧ hv = .int .i64 hour ∧ calls.length = k ∧ P1 p hours calls busy hour ∧ Own w.heap.size w [.blk pb (.cells (prtV Ac cc Ab cb p) 44 (0, 0)), .blk rb (.cells #[.int .i64 0, .slice none 0 0, .slice none 0 0] 49 (0, 0)), .nx ib lb, .blk ob (.cells #[.int .i64 hours, .slice (Al) (k) (cl), .slice (none) (0) (0)] 49 (0, 0)), .own 52 6 (Al) (k) (cl) (cacs calls) fa, .own 65 3 (none) (0) (0) (swcs []) [], .own 4 1 (some ⟨ub, 0, none⟩) p.bts.length p.bts.length (bools busy) [ub]] wx)
    case atStart => exact ⟨0, [], noB p, hx5, none, 0, [], rfl, rfl, rfl, rfl, HP1.out, HS7.out⟩
    case round =>
      obtain ⟨k, calls, busy, hour, Al, cl, fa, hk, rfl, rfl, hcl, hP, hO⟩ := hrel;by_cases hlt : k < nn
      · have ho := hO.heap 3 rfl;have o0 : wr.cell? ⟨ob, 0, none⟩ = some (.int .i64 hours) := (cOH ho 0).trans rfl;have zo := hL_ ho;have HO := Lib.hid (And.intro hO (And.intro hP hcl));have hhr := hP.hr;clear hO hP hcl ho;by_cases hb : hour < hours
        · have hpc := HO.out.1.heap 0 rfl;have p1 : wr.cell? ⟨pb, 1, none⟩ = some (.slice Ab p.bts.length cb) := (cOH hpc 1).trans rfl;have zp := hL_ hpc;clear hpc;go_upto_region 9 with (go_at_call 24; refine (next_some (p.bts.length) (HO.out.1.nxt 2 rfl) (by omega)).mono ?_; rintro e w7 ⟨bx, rfl, ⟨bx1, bx2⟩, nx3, k3, s3⟩; have HO1 := Lib.hid (HO.out.1.next 2 rfl nx3 k3); clear nx3 k3 s3)
          clear o0 zo p1 zp;obtain ⟨b, hbn⟩ : ∃ n : Nat, (n : Int) = bx := ⟨bx.toNat, by omega⟩;rw [← hbn];have hbl : b < p.bts.length := by omega
          clear hbn bx1 bx2;obtain ⟨A0, c0, l0, k0, hdr, hby, hln, hne, hap⟩ := HO1.out.draws 2 rfl;obtain ⟨mt, hmt⟩ : ∃ m, m = if 3 < p.tugs then 3 else p.tugs := ⟨_, rfl⟩
          have hmb : 1 ≤ mt ∧ mt ≤ 3 ∧ mt ≤ p.tugs := by rw [hmt]; split <;> omega
          obtain ⟨x0, hx0⟩ : ∃ x, x = draw l0 k0 200 := ⟨_, rfl⟩;obtain ⟨x1, hx1⟩ : ∃ x, x = draw l0 (k0 + 1) 120 := ⟨_, rfl⟩;obtain ⟨x2, hx2⟩ : ∃ x, x = draw l0 (k0 + 2) (mt + 1) := ⟨_, rfl⟩;have r0 := draw_range (l := l0) k0 (n := 200) (by decide);have r1 := draw_range (l := l0) (k0 + 1) (n := 120) (by decide);have r2 := draw_range (l := l0) (k0 + 2) (n := mt + 1) (by omega);rw [← hx0] at r0;rw [← hx1] at r1;rw [← hx2] at r2;obtain ⟨bz, hbz⟩ : ∃ z, z = busy.getD b false := ⟨_, rfl⟩;have hU := HO1.out.owns 6 rfl;obtain ⟨gu, eu1, eu2, eu3, eu4, eu5⟩ := hU.some_ (by omega);injection eu1 with eu1
          injection eu1 with eu1 _ _
          subst eu1;have cu : w7.cell? ⟨ub, b, none⟩ = some (.bool bz) := by rw [hbz]; exact eu4 b _ (bools_get (by rw [HO.out.2.1.len]; exact hbl))
          have cu2 : ub ∉ ib :: ob :: fa := by
            simp only [List.mem_cons, not_or];exact ⟨HO1.out.ne 6 2 rfl rfl (by decide) (by simp [It.fp]) (by simp [It.fp]), HO1.out.ne 6 3 rfl rfl (by decide) (by simp [It.fp]) (by simp [It.fp]), fun hm => HO1.out.dis 6 4 _ _ rfl rfl (by decide) ub (by simp [It.fp]) hm⟩
          have hpc := HO1.out.heap 0 rfl;have p2 : w7.cell? ⟨pb, 2, none⟩ = some (.int .i64 p.tugs) := (cOH hpc 2).trans rfl;have p22 : pb ∉ ib :: ob :: fa := by
            simp only [List.mem_cons, not_or];exact ⟨HO1.out.ne 0 2 rfl rfl (by decide) (by simp [It.fp]) (by simp [It.fp]), HO1.out.ne 0 3 rfl rfl (by decide) (by simp [It.fp]) (by simp [It.fp]), fun hm => HO1.out.dis 0 4 _ _ rfl rfl (by decide) pb (by simp [It.fp]) hm⟩
          have HL := Lib.hid (And.intro cu (And.intro cu2 (And.intro p2 (And.intro p22 hmt.symm))));obtain ⟨C, hC⟩ : ∃ C : ApC, C = ⟨ib, lb, k0, A0, c0, l0, ob, 52, 6, k, Al, cl, cacs calls, fa, cac ⟨hour, b, bz, 10 + x0, 10 + x1, x2⟩, #[.int .i64 hours, .slice Al k cl, .slice none 0 0], fun A c => #[.int .i64 hours, .slice A (k + 1) c, .slice none 0 0], 49⟩ := ⟨_, rfl⟩;have O : ApOk C w7 := by
            subst hC;exact HO1.out.apOk 2 3 4 rfl rfl rfl (by decide) (by decide) (by decide) hdr hby hln hne hap
          have HX := Lib.hid (And.intro hx0 (And.intro hx1 (And.intro hx2 (And.intro O (And.intro hC (And.intro hap hbz))))));clear hx0 hx1 hx2 O hdr hby hln hne hap hU eu2 eu3 eu4 eu5 cu cu2 hpc p2 p22 hbz hmt;subst hC;refine wRS (σ := ApS) (by kernel_rfl) (by kernel_rfl) (fun sg jx vx _ => Pd9V ib lb pb ob ub p.bts.length hour p.tugs mt b bz x0 x1 x2 k Al cl sg jx vx) (fun sg ly wx => ApW ⟨ib, lb, k0, A0, c0, l0, ob, 52, 6, k, Al, cl, cacs calls, fa, cac ⟨hour, b, bz, 10 + x0, 10 + x1, x2⟩, #[.int .i64 hours, .slice Al k cl, .slice none 0 0], fun A c => #[.int .i64 hours, .slice A (k + 1) c, .slice none 0 0], 49⟩ 21 22 24 Pd9Cnt w7 sg ly wx) ⟨0, none, 0, 0⟩ ?_ ?_ ?_
          · exact HX.out.2.2.2.1.start (by simp [Pd9Cnt])
          · simp only [AllFrom, Nat.zero_add, Nat.reduceAdd];refine ⟨?_, ?_, ?_, ?_, ?_, ?_, ?_, ?_, ?_, ?_, ?_, ?_, ?_, ?_, ?_, ?_, ?_, ?_, ?_, ?_, ?_, ?_, ?_, ?_, ?_, trivial⟩
            · refine sP_ fun sg ly a wx hl hd hW hF => ?_;have et6 := hF.old 6 (by kernel_rfl);simp [Act.eval] at et6;exact ⟨hW.other HX.out.2.2.2.1 _ (by decide) (by simp [Pd9Cnt, upd]), .pointer (some ⟨ob, 1, none⟩), by go_simp, rfl⟩
            · refine sP_ fun sg ly a wx hl hd hW hF => ?_;simp [Region.binds] at hd;have et41 := hF.new 0 41 (by simp [hd]) rfl;simp [Pd9V, Act.eval] at et41;have nS := hF.notYet 1 24 hl (by kernel_rfl);have hh := hW.hob;rw [if_neg (by simp [nS])] at hh;have cL := (cOH hh 1).trans rfl;have zL := hL_ hh;exact ⟨hW.other HX.out.2.2.2.1 _ (by decide) (by simp [Pd9Cnt, upd]), _, by go_simp, rfl⟩
            · refine sP_ fun sg ly a wx hl hd hW hF => ?_;have et8 := hF.old 8 (by kernel_rfl);simp [Act.eval] at et8;exact ⟨hW.other HX.out.2.2.2.1 _ (by decide) (by simp [Pd9Cnt, upd]), .int .i64 hour, by go_simp, rfl⟩
            · refine sP_ fun sg ly a wx hl hd hW hF => ?_;have et9 := hF.old 9 (by kernel_rfl);simp [Act.eval] at et9;exact ⟨hW.other HX.out.2.2.2.1 _ (by decide) (by simp [Pd9Cnt, upd]), .int .i64 b, by go_simp, rfl⟩
            · refine sP_ fun sg ly a wx hl hd hW hF => ?_;have et7 := hF.old 7 (by kernel_rfl);simp [Act.eval] at et7;exact ⟨hW.other HX.out.2.2.2.1 _ (by decide) (by simp [Pd9Cnt, upd]), .slice (some ⟨ub, 0, none⟩) p.bts.length p.bts.length, by go_simp, rfl⟩
            · refine sP_ fun sg ly a wx hl hd hW hF => ?_;have et9 := hF.old 9 (by kernel_rfl);simp [Act.eval] at et9;exact ⟨hW.other HX.out.2.2.2.1 _ (by decide) (by simp [Pd9Cnt, upd]), .int .i64 b, by go_simp, rfl⟩
            · refine sP_ fun sg ly a wx hl hd hW hF => ?_;simp [Region.binds] at hd;have et45 := hF.new 4 45 (by simp [hd]) rfl;simp [Pd9V, Act.eval] at et45;have et46 := hF.new 5 46 (by simp [hd]) rfl;simp [Pd9V, Act.eval] at et46;exact ⟨hW.other HX.out.2.2.2.1 _ (by decide) (by simp [Pd9Cnt, upd]), .pointer (some ⟨ub, b, none⟩), by go_simp, rfl⟩
            · refine sP_ fun sg ly a wx hl hd hW hF => ?_;simp [Region.binds] at hd;have et47 := hF.new 6 47 (by simp [hd]) rfl;simp [Pd9V, Act.eval] at et47;have cU := hW.kp.cell HL.out.1 HL.out.2.1;exact ⟨hW.other HX.out.2.2.2.1 _ (by decide) (by simp [Pd9Cnt, upd]), .bool bz, by go_simp, rfl⟩
            · refine sP_ fun sg ly a wx hl hd hW hF => ?_;have et5 := hF.old 5 (by kernel_rfl);simp [Act.eval] at et5;exact ⟨hW.other HX.out.2.2.2.1 _ (by decide) (by simp [Pd9Cnt, upd]), .func (.func 24) #[] #[.pointer (some ⟨ib, 0, none⟩), .pointer (some ⟨lb, 0, none⟩)], by go_simp, rfl⟩
            · refine sC_ fun sg ly a wx hl hd hW hF => ?_;simp [Region.binds] at hd;have et49 := hF.new 8 49 (by simp [hd]) rfl;simp [Pd9V, Act.eval] at et49;have n12 := hF.notYet 9 12 hl (by kernel_rfl);have n19_12 := hF.notYet 9 12 hl (by kernel_rfl);have n19 := hF.notYet 12 19 n19_12 (by kernel_rfl);have hq := hW.next HX.out.2.2.2.1 (200) (by decide)
              rw [show Pd9Cnt ly = 0 from by simp [Pd9Cnt, hl, n12, n19]] at hq;refine ⟨24, #[.int .i64 (200), .pointer (some ⟨ib, 0, none⟩), .pointer (some ⟨lb, 0, none⟩)], by go_simp, ?_⟩;refine hq.mono ?_;rintro e w2 ⟨rfl, d2, k2, s2⟩;exact ⟨.int .i64 x0, sg, by rw [HX.out.1] <;> rfl, hW.call HX.out.2.2.2.1 _ (by decide) (by rw [show Pd9Cnt (upd ly 9) = 1 from by simp [Pd9Cnt, upd, n12, n19]]; exact d2) k2, rfl, fun _ _ _ h => h⟩
            · refine sP_ fun sg ly a wx hl hd hW hF => ?_;simp [Region.binds] at hd;have et50 := hF.new 9 50 (by simp [hd]) rfl;simp [Pd9V, Act.eval] at et50;have ew := IntWalk.i64_in (10 + x0) (by omega);exact ⟨hW.other HX.out.2.2.2.1 _ (by decide) (by simp [Pd9Cnt, upd]), .int .i64 (10 + x0), by go_simp, rfl⟩
            · refine sP_ fun sg ly a wx hl hd hW hF => ?_;have et5 := hF.old 5 (by kernel_rfl);simp [Act.eval] at et5;exact ⟨hW.other HX.out.2.2.2.1 _ (by decide) (by simp [Pd9Cnt, upd]), .func (.func 24) #[] #[.pointer (some ⟨ib, 0, none⟩), .pointer (some ⟨lb, 0, none⟩)], by go_simp, rfl⟩
            · refine sC_ fun sg ly a wx hl hd hW hF => ?_;simp [Region.binds] at hd;have et52 := hF.new 11 52 (by simp [hd]) rfl;simp [Pd9V, Act.eval] at et52;have y9 : ly 9 = true := by simp [hd]
              have n19 := hF.notYet 12 19 hl (by kernel_rfl);have hq := hW.next HX.out.2.2.2.1 (120) (by decide)
              rw [show Pd9Cnt ly = 1 from by simp [Pd9Cnt, hl, y9, n19]] at hq;refine ⟨24, #[.int .i64 (120), .pointer (some ⟨ib, 0, none⟩), .pointer (some ⟨lb, 0, none⟩)], by go_simp, ?_⟩;refine hq.mono ?_;rintro e w2 ⟨rfl, d2, k2, s2⟩;exact ⟨.int .i64 x1, sg, by rw [HX.out.2.1] <;> rfl, hW.call HX.out.2.2.2.1 _ (by decide) (by rw [show Pd9Cnt (upd ly 12) = 2 from by simp [Pd9Cnt, upd, y9, n19]]; exact d2) k2, rfl, fun _ _ _ h => h⟩
            · refine sP_ fun sg ly a wx hl hd hW hF => ?_;simp [Region.binds] at hd;have et53 := hF.new 12 53 (by simp [hd]) rfl;simp [Pd9V, Act.eval] at et53;have ew := IntWalk.i64_in (10 + x1) (by omega);exact ⟨hW.other HX.out.2.2.2.1 _ (by decide) (by simp [Pd9Cnt, upd]), .int .i64 (10 + x1), by go_simp, rfl⟩
            · refine sP_ fun sg ly a wx hl hd hW hF => ?_;have et5 := hF.old 5 (by kernel_rfl);simp [Act.eval] at et5;exact ⟨hW.other HX.out.2.2.2.1 _ (by decide) (by simp [Pd9Cnt, upd]), .func (.func 24) #[] #[.pointer (some ⟨ib, 0, none⟩), .pointer (some ⟨lb, 0, none⟩)], by go_simp, rfl⟩
            · refine sP_ fun sg ly a wx hl hd hW hF => ?_;have et2 := hF.old 2 (by kernel_rfl);simp [Act.eval] at et2;exact ⟨hW.other HX.out.2.2.2.1 _ (by decide) (by simp [Pd9Cnt, upd]), .pointer (some ⟨pb, 2, none⟩), by go_simp, rfl⟩
            · refine sP_ fun sg ly a wx hl hd hW hF => ?_;simp [Region.binds] at hd;have et56 := hF.new 15 56 (by simp [hd]) rfl;simp [Pd9V, Act.eval] at et56;have cP := hW.kp.cell HL.out.2.2.1 HL.out.2.2.2.1;exact ⟨hW.other HX.out.2.2.2.1 _ (by decide) (by simp [Pd9Cnt, upd]), .int .i64 p.tugs, by go_simp, rfl⟩
            · refine sP_ fun sg ly a wx hl hd hW hF => ?_;simp [Region.binds] at hd;have et57 := hF.new 16 57 (by simp [hd]) rfl;simp [Pd9V, Act.eval] at et57;have eM := HL.out.2.2.2.2;exact ⟨hW.other HX.out.2.2.2.1 _ (by decide) (by simp [Pd9Cnt, upd]), .int .i64 mt, by go_simp, rfl⟩
            · refine sP_ fun sg ly a wx hl hd hW hF => ?_;simp [Region.binds] at hd;have et58 := hF.new 17 58 (by simp [hd]) rfl;simp [Pd9V, Act.eval] at et58;have ew := IntWalk.i64_in (mt + 1) (by omega);exact ⟨hW.other HX.out.2.2.2.1 _ (by decide) (by simp [Pd9Cnt, upd]), .int .i64 (mt + 1), by go_simp, rfl⟩
            · refine sC_ fun sg ly a wx hl hd hW hF => ?_;simp [Region.binds] at hd;have et55 := hF.new 14 55 (by simp [hd]) rfl;simp [Pd9V, Act.eval] at et55;have et59 := hF.new 18 59 (by simp [hd]) rfl;simp [Pd9V, Act.eval] at et59;have y9 := hF.before 9 12 (by simp [hd]) (by kernel_rfl);have y12 : ly 12 = true := by simp [hd]
              have hq := hW.next HX.out.2.2.2.1 (mt + 1) (by omega)
              rw [show Pd9Cnt ly = 2 from by simp [Pd9Cnt, hl, y9, y12]] at hq;refine ⟨24, #[.int .i64 (mt + 1), .pointer (some ⟨ib, 0, none⟩), .pointer (some ⟨lb, 0, none⟩)], by go_simp, ?_⟩;refine hq.mono ?_;rintro e w2 ⟨rfl, d2, k2, s2⟩;exact ⟨.int .i64 x2, sg, by rw [HX.out.2.2.1] <;> rfl, hW.call HX.out.2.2.2.1 _ (by decide) (by rw [show Pd9Cnt (upd ly 19) = 3 from by simp [Pd9Cnt, upd, y9, y12]]; exact d2) k2, rfl, fun _ _ _ h => h⟩
            · refine sP_ fun sg ly a wx hl hd hW hF => ?_;simp [Region.binds] at hd;have et43 := hF.new 2 43 (by simp [hd]) rfl;simp [Pd9V, Act.eval] at et43;have et44 := hF.new 3 44 (by simp [hd]) rfl;simp [Pd9V, Act.eval] at et44;have et48 := hF.new 7 48 (by simp [hd]) rfl;simp [Pd9V, Act.eval] at et48;have et51 := hF.new 10 51 (by simp [hd]) rfl;simp [Pd9V, Act.eval] at et51;have et54 := hF.new 13 54 (by simp [hd]) rfl;simp [Pd9V, Act.eval] at et54;have et60 := hF.new 19 60 (by simp [hd]) rfl;simp [Pd9V, Act.eval] at et60;exact ⟨hW.other HX.out.2.2.2.1 _ (by decide) (by simp [Pd9Cnt, upd]), .agg #[.int .i64 hour, .int .i64 b, .bool bz, .int .i64 (10 + x0), .int .i64 (10 + x1), .int .i64 x2], by go_simp, rfl⟩
            · refine sR_ fun sg ly a wx hl hd hW hF => ?_;simp [Region.binds] at hd;have et61 := hF.new 20 61 (by simp [hd]) rfl;simp [Pd9V, Act.eval] at et61;refine ⟨_, wx.alloc (.cells #[.int .i64 hour, .int .i64 b, .bool bz, .int .i64 (10 + x0), .int .i64 (10 + x1), .int .i64 x2] 52), { sg with bs := wx.heap.size }, by go_simp, hW.build HX.out.2.2.2.1 (by decide) (by simp [Pd9Cnt, upd]), rfl, ?_⟩;intro i u hi h;have i21 : i ≠ 21 := by rintro rfl; rw [hl] at hi; cases hi
              unfold Pd9V at h ⊢;split at h <;> first | exact h | exact absurd rfl i21
            · intro sg ly a wx hl hd hW hF;simp [Region.binds] at hd;have et42 := hF.new 1 42 (by simp [hd]) rfl;simp [Pd9V, Act.eval] at et42;have et62 := hF.new 21 62 (by simp [hd]) rfl;simp [Pd9V, Act.eval] at et62;have nS := hF.notYet 22 24 hl (by kernel_rfl);have yB : ly 21 = true := by simp [hd]
              refine hW.at_append HX.out.2.2.2.1 (.tmp 42) (.tmp 62) 46 rfl iC _ 48 Try.underlying46 hC0 hC1 hC2 (show (0 : Nat) < 6 from by decide) hC3 rfl (by simpa [Act.eval] using et42) (by simpa [Act.eval] using et62) rfl (by simp [cac, Value.oneCell']) (by simp only; omega) (by omega) (by decide) (by simp [Pd9Cnt, upd]) yB hl nS ?_;intro g c' w' h';refine ⟨{ sg with A := some ⟨g, 0, none⟩, c := c', g := g }, _, rfl, h', fun _ => rfl, ?_⟩;intro i u hi h;have i22 : i ≠ 22 := by rintro rfl; rw [hl] at hi; cases hi
              unfold Pd9V at h ⊢;split at h <;> first | exact h | exact absurd rfl i22
            · refine sP_ fun sg ly a wx hl hd hW hF => ?_;have et6 := hF.old 6 (by kernel_rfl);simp [Act.eval] at et6;exact ⟨hW.other HX.out.2.2.2.1 _ (by decide) (by simp [Pd9Cnt, upd]), .pointer (some ⟨ob, 1, none⟩), by go_simp, rfl⟩
            · refine sS_ rfl fun sg ly a wx hl hd hW hF => ?_;simp [Region.binds] at hd;have et64 := hF.new 23 64 (by simp [hd]) rfl;simp [Pd9V, Act.eval] at et64;have et63 := hF.new 22 63 (by simp [hd]) rfl;simp [Pd9V, Act.eval] at et63;have yA : ly 22 = true := by simp [hd]
              have hh := hW.hob;rw [if_neg (by simp [hl])] at hh;have cL := (cOH hh 1).trans rfl;have fL := fOH hh 1;have zL := hL_ hh;exact ⟨_, sg, .skip, by go_simp, .inl rfl, hW.store HX.out.2.2.2.1 (by decide) (by simp [Pd9Cnt, upd]) 1 (fun _ _ => rfl) yA hl, fun _ _ _ h => h⟩
          intro sg af w8 hWW hF;obtain ⟨ff, hf, rfl⟩ := hF.lit;have S8 := HO1.out.apDone 2 3 4 rfl rfl rfl (by decide) (by decide) (by decide) HX.out.2.2.2.2.2.1 HX.out.2.2.2.1 hWW rfl rfl;have S8' : Own w.heap.size w [.blk pb (.cells (prtV Ac cc Ab cb p) 44 (0, 0)), .blk rb (.cells #[.int .i64 0, .slice none 0 0, .slice none 0 0] 49 (0, 0)), .nx ib lb, .blk ob (.cells #[.int .i64 hours, .slice (sg.A) (k + 1) (sg.c), .slice (none) (0) (0)] 49 (0, 0)), .own 52 6 (sg.A) (k + 1) (sg.c) (cacs (calls ++ [⟨hour, b, bz, 10 + x0, 10 + x1, x2⟩])) [sg.g], .own 65 3 (none) (0) (0) (swcs []) [], .own 4 1 (some ⟨ub, 0, none⟩) p.bts.length p.bts.length (bools busy) [ub]] w8 := by
            have e : cacs calls ++ cac ⟨hour, b, bz, 10 + x0, 10 + x1, x2⟩ = cacs (calls ++ [⟨hour, b, bz, 10 + x0, 10 + x1, x2⟩]) := (flat_snoc _ _ _).symm;have h := S8;simp only [e] at h;exact h
          have HS8 := Lib.hid S8';have hU := S8'.owns 6 rfl;obtain ⟨gu, eu1, eu2, eu3, eu4, eu5⟩ := hU.some_ (by omega);injection eu1 with eu1
          injection eu1 with eu1 _ _
          subst eu1;have cu : w8.cell? ⟨ub, b, none⟩ = some (.bool bz) := by rw [HX.out.2.2.2.2.2.2]; exact eu4 b _ (bools_get (by rw [HO.out.2.1.len]; exact hbl))
          have cf := eu5 b;clear hf hF hWW S8 S8' hU eu2 eu4 eu5;simp only [List.filterMap, List.foldl, List.setIfInBounds_toArray, List.set_cons_succ, List.set_cons_zero];go_upto_region 11 with fail
          obtain ⟨X9, hX9⟩ : ∃ Y, Y = w8.setCell ⟨ub, b, none⟩ (.bool (!bz)) := ⟨_, rfl⟩;rw [← hX9];have S9 : Own w.heap.size w [.blk pb (.cells (prtV Ac cc Ab cb p) 44 (0, 0)), .blk rb (.cells #[.int .i64 0, .slice none 0 0, .slice none 0 0] 49 (0, 0)), .nx ib lb, .blk ob (.cells #[.int .i64 hours, .slice (sg.A) (k + 1) (sg.c), .slice (none) (0) (0)] 49 (0, 0)), .own 52 6 (sg.A) (k + 1) (sg.c) (cacs (calls ++ [⟨hour, b, bz, 10 + x0, 10 + x1, x2⟩])) [sg.g], .own 65 3 (none) (0) (0) (swcs []) [], .own 4 1 (some ⟨ub, 0, none⟩) p.bts.length p.bts.length (bools (busy.set b (!bz))) [ub]] X9 := by
            have h := HS8.out.upd 6 rfl (w' := X9) (i' := .own 4 1 (some ⟨ub, 0, none⟩) p.bts.length p.bts.length (bools (busy.set b (!bz))) [ub]) (by rw [hX9]; exact (Keep.refl _ _).setCell (.inl (by simp [It.fp])) _) (by
              have h2 := (HS8.out.owns 6 rfl).set_ b (.bool (!bz));have e : (bools busy).set b (.bool (!bz)) = bools (busy.set b (!bz)) := by simp [bools, List.map_set]
              rw [e] at h2;rw [hX9]; exact h2) (fun x hx => .inl hx)
            exact h
          have HS9 := Lib.hid S9;clear cu cf eu3 hX9 S9;go_wp2_with (go_at_call 24; refine (next_some (5) (HS9.out.nxt 2 rfl) (by decide)).mono ?_; rintro e w10 ⟨hx9, rfl, ⟨hx91, hx92⟩, nx3, k3, s3⟩; have HS10 := Lib.hid (HS9.out.next 2 rfl nx3 k3); clear nx3 k3 s3)
          go_roundg (gk - 1);case measure => omega
          case rel =>
            have hP' := HO.out.2.1.push HPB.out.2.1 (b := b) (x0 := x0) (x1 := x1) (x2 := x2) (x3 := hx9) hb hhb.2 hbl r0 r1 (by omega) ⟨hx91, hx92⟩;rw [← HX.out.2.2.2.2.2.2] at hP';exact ⟨k + 1, _, _, _, _, _, _, by omega, by go_num, rfl, by rw [List.length_append, HO.out.2.2]; rfl, hP', HS10.out⟩
        · go_wp2_with fail
          go_meet
          exact ⟨k, calls, busy, hour, Al, cl, fa, by omega, HO.out.2.2, HO.out.2.1, HO.out.1⟩
      · obtain rfl : k = nn := by omega
        have HO := Lib.hid (And.intro hO (And.intro hP hcl));clear hO hP hcl;go_wp2_with fail
        go_meet
        exact ⟨k, calls, busy, hour, Al, cl, fa, by omega, HO.out.2.2, HO.out.2.1, HO.out.1⟩
  case rest =>
    obtain ⟨k, calls, busy, hour, Al, cl, fa, hk8, hcl, hP, hO⟩ := hcut;have HP := Lib.hid (And.intro hP hcl);have HO := Lib.hid hO;clear hP hcl hO;go_upto_region 14 with (go_at_call 24; refine (next_some (12) (HO.out.nxt 2 rfl) (by decide)).mono ?_; rintro e w1 ⟨my, rfl, ⟨my1, my2⟩, nx3, k3, s3⟩; have HO1 := Lib.hid (HO.out.next 2 rfl nx3 k3); clear nx3 k3 s3)
    obtain ⟨mm, hmm⟩ : ∃ n : Nat, (n : Int) = my := ⟨my.toNat, by omega⟩;have hm11 : mm ≤ 11 := by omega
    rw [← hmm];clear hmm my1 my2;go_wp2_with fail
    go_loopg [81] mm (fun g i wx => ∃ (r j : Nat) (swps : List Swp) (As : Option Addr) (cs : Nat) (fs : List Nat), g + r = mm ∧ j ≤ r ∧ i = .int .i64 r ∧ swps.length = j ∧ P2 p hours calls swps ∧ Own w.heap.size w [.blk pb (.cells (prtV Ac cc Ab cb p) 44 (0, 0)), .blk rb (.cells #[.int .i64 0, .slice none 0 0, .slice none 0 0] 49 (0, 0)), .nx ib lb, .blk ob (.cells #[.int .i64 hours, .slice (Al) (k) (cl), .slice (As) (j) (cs)] 49 (0, 0)), .own 52 6 (Al) (k) (cl) (cacs calls) fa, .own 65 3 (As) (j) (cs) (swcs swps) fs, .own 4 1 (some ⟨ub, 0, none⟩) p.bts.length p.bts.length (bools busy) [ub]] wx)
    case atStart => exact ⟨0, 0, [], none, 0, [], rfl, Nat.le_refl _, rfl, rfl, P2.start HP.out.1, HO1.out⟩
    case round =>
      obtain ⟨r, j, swps, As, cs, fs, hj, hjr, rfl, hsl, hP2, hO⟩ := hrel;obtain ⟨G2, hG2⟩ : ∃ q, q = gk := ⟨_, rfl⟩;by_cases hlt : r < mm
      · have HT := Lib.hid (And.intro hO (And.intro hP2 hsl));obtain ⟨A0, c0, l0, k0, hdr, hby, hln, hne, hap⟩ := hO.draws 2 rfl;have hnx := hO.nxt 2 rfl;have hiz := hnx.lt;have hapz : 0 < l0.length → ∀ b off, A0 = some ⟨b, off, none⟩ → b < wr.heap.size := fun h0 b off e => by have := hap h0 b off e; omega
        have hapi : 0 < l0.length → ∀ b off, A0 = some ⟨b, off, none⟩ → b ≠ ib := fun h0 b off e => by have := hap h0 b off e; omega
        obtain ⟨x0, hx0⟩ : ∃ x, x = draw l0 k0 hours := ⟨_, rfl⟩;obtain ⟨x1, hx1⟩ : ∃ x, x = draw l0 (k0 + 1) p.chs.length := ⟨_, rfl⟩;have r0 := draw_range (l := l0) k0 (n := hours) (by omega);have r1 := draw_range (l := l0) (k0 + 1) (n := p.chs.length) (by omega);rw [← hx0] at r0;rw [← hx1] at r1;have ho := hO.heap 3 rfl;have hpc := hO.heap 0 rfl;have HL := Lib.hid (And.intro ((cOH ho 0).trans rfl : wr.cell? ⟨ob, 0, none⟩ = some (.int .i64 hours)) (And.intro (show ob ∉ [ib] from by simpa using hO.ne 3 2 rfl rfl (by decide) (by simp [It.fp]) (by simp [It.fp])) (And.intro ((cOH hpc 0).trans rfl : wr.cell? ⟨pb, 0, none⟩ = some (.slice Ac p.chs.length cc)) (show pb ∉ [ib] from by simpa using hO.ne 0 2 rfl rfl (by decide) (by simp [It.fp]) (by simp [It.fp])))));have HX := Lib.hid (And.intro hx0 (And.intro hx1 (And.intro hdr (And.intro hby (And.intro hln (And.intro hne (And.intro hapi hap)))))));clear hx0 hx1 hO hP2 hsl ho hpc hnx hdr hby hln hap hapi;go_upto_region 15 with fail
        refine wRS (σ := Nat) (by kernel_rfl) (by kernel_rfl) (fun sg jx vx _ => Pd15V ib lb pb ob hours Ac p.chs.length cc x0 x1 sg jx vx) (fun sg ly wx => DsW ib lb k0 A0 c0 l0 10 11 Pd15Cnt #[.int .i64 0, .int .i64 0, .int .i64 0] #[.int .i64 x0, .int .i64 x1, .int .i64 0] 65 wr sg ly wx) 0 ?_ ?_ ?_
        · exact DsW.start HX.out.2.2.1 (by simp [Pd15Cnt])
        · simp only [AllFrom, Nat.zero_add, Nat.reduceAdd];refine ⟨?_, ?_, ?_, ?_, ?_, ?_, ?_, ?_, ?_, ?_, ?_, ?_, trivial⟩
          · refine sP_ fun sg ly a wx hl hd hW hF => ?_;have et5 := hF.old 5 (by kernel_rfl);simp [Act.eval] at et5;exact ⟨hW.other _ (by decide) (by simp [Pd15Cnt, upd]), .func (.func 24) #[] #[.pointer (some ⟨ib, 0, none⟩), .pointer (some ⟨lb, 0, none⟩)], by go_simp, rfl⟩
          · refine sP_ fun sg ly a wx hl hd hW hF => ?_;have et6 := hF.old 6 (by kernel_rfl);simp [Act.eval] at et6;exact ⟨hW.other _ (by decide) (by simp [Pd15Cnt, upd]), .pointer (some ⟨ob, 0, none⟩), by go_simp, rfl⟩
          · refine sP_ fun sg ly a wx hl hd hW hF => ?_;simp [Region.binds] at hd;have et84 := hF.new 1 84 (by simp [hd]) rfl;simp [Pd15V, Act.eval] at et84;have cU := hW.1.cell HL.out.1 HL.out.2.1;exact ⟨hW.other _ (by decide) (by simp [Pd15Cnt, upd]), .int .i64 hours, by go_simp, rfl⟩
          · refine sC_ fun sg ly a wx hl hd hW hF => ?_;simp [Region.binds] at hd;have et83 := hF.new 0 83 (by simp [hd]) rfl;simp [Pd15V, Act.eval] at et83;have et85 := hF.new 2 85 (by simp [hd]) rfl;simp [Pd15V, Act.eval] at et85;have n8 := hF.notYet 3 8 hl (by kernel_rfl);have hq := hW.next HX.out.2.2.2.1 HX.out.2.2.2.2.1 HX.out.2.2.2.2.2.1 HX.out.2.2.2.2.2.2.1 (hours) (by omega)
            rw [show Pd15Cnt ly = 0 from by simp [Pd15Cnt, hl, n8]] at hq;refine ⟨24, #[.int .i64 (hours), .pointer (some ⟨ib, 0, none⟩), .pointer (some ⟨lb, 0, none⟩)], by go_simp, ?_⟩;refine hq.mono ?_;rintro e w2 ⟨rfl, d2, k2, s2⟩;exact ⟨.int .i64 x0, sg, by rw [HX.out.1] <;> rfl, hW.call hiz.1 _ (by decide) (by rw [show Pd15Cnt (upd ly 3) = 1 from by simp [Pd15Cnt, upd, n8]]; exact d2) k2, rfl, fun _ _ _ h => h⟩
          · refine sP_ fun sg ly a wx hl hd hW hF => ?_;have et5 := hF.old 5 (by kernel_rfl);simp [Act.eval] at et5;exact ⟨hW.other _ (by decide) (by simp [Pd15Cnt, upd]), .func (.func 24) #[] #[.pointer (some ⟨ib, 0, none⟩), .pointer (some ⟨lb, 0, none⟩)], by go_simp, rfl⟩
          · refine sP_ fun sg ly a wx hl hd hW hF => ?_;have et2 := hF.old 2 (by kernel_rfl);simp [Act.eval] at et2;exact ⟨hW.other _ (by decide) (by simp [Pd15Cnt, upd]), .pointer (some ⟨pb, 0, none⟩), by go_simp, rfl⟩
          · refine sP_ fun sg ly a wx hl hd hW hF => ?_;simp [Region.binds] at hd;have et88 := hF.new 5 88 (by simp [hd]) rfl;simp [Pd15V, Act.eval] at et88;have cU := hW.1.cell HL.out.2.2.1 HL.out.2.2.2;exact ⟨hW.other _ (by decide) (by simp [Pd15Cnt, upd]), .slice Ac p.chs.length cc, by go_simp, rfl⟩
          · refine sP_ fun sg ly a wx hl hd hW hF => ?_;simp [Region.binds] at hd;have et89 := hF.new 6 89 (by simp [hd]) rfl;simp [Pd15V, Act.eval] at et89;exact ⟨hW.other _ (by decide) (by simp [Pd15Cnt, upd]), .int .i64 p.chs.length, by go_simp, rfl⟩
          · refine sC_ fun sg ly a wx hl hd hW hF => ?_;simp [Region.binds] at hd;have et87 := hF.new 4 87 (by simp [hd]) rfl;simp [Pd15V, Act.eval] at et87;have et90 := hF.new 7 90 (by simp [hd]) rfl;simp [Pd15V, Act.eval] at et90;have y3 : ly 3 = true := by simp [hd]
            have hq := hW.next HX.out.2.2.2.1 HX.out.2.2.2.2.1 HX.out.2.2.2.2.2.1 HX.out.2.2.2.2.2.2.1 (p.chs.length) (by omega)
            rw [show Pd15Cnt ly = 1 from by simp [Pd15Cnt, hl, y3]] at hq;refine ⟨24, #[.int .i64 (p.chs.length), .pointer (some ⟨ib, 0, none⟩), .pointer (some ⟨lb, 0, none⟩)], by go_simp, ?_⟩;refine hq.mono ?_;rintro e w2 ⟨rfl, d2, k2, s2⟩;exact ⟨.int .i64 x1, sg, by rw [HX.out.2.1] <;> rfl, hW.call hiz.1 _ (by decide) (by rw [show Pd15Cnt (upd ly 8) = 2 from by simp [Pd15Cnt, upd, y3]]; exact d2) k2, rfl, fun _ _ _ h => h⟩
          · refine sP_ fun sg ly a wx hl hd hW hF => ?_;simp [Region.binds] at hd;have et86 := hF.new 3 86 (by simp [hd]) rfl;simp [Pd15V, Act.eval] at et86;have et91 := hF.new 8 91 (by simp [hd]) rfl;simp [Pd15V, Act.eval] at et91;exact ⟨hW.other _ (by decide) (by simp [Pd15Cnt, upd]), .agg #[.int .i64 x0, .int .i64 x1, .int .i64 0], by go_simp, rfl⟩
          · refine sR_ fun sg ly a wx hl hd hW hF => ?_;have nS := hF.notYet 10 11 hl (by kernel_rfl);refine ⟨_, wx.alloc (.cells #[.int .i64 0, .int .i64 0, .int .i64 0] 65), wx.heap.size, by go_simp, hW.alloc nS (by simp [Pd15Cnt, upd]) (by decide), rfl, ?_⟩;intro i u hi h;have i10 : i ≠ 10 := by rintro rfl; rw [hl] at hi; cases hi
            unfold Pd15V at h ⊢;split at h <;> first | exact h | exact absurd rfl i10
          · refine sS_ rfl fun sg ly a wx hl hd hW hF => ?_;simp [Region.binds] at hd;have et10 := hF.new 10 10 (by simp [hd]) rfl;simp [Pd15V, Act.eval] at et10;have et92 := hF.new 9 92 (by simp [hd]) rfl;simp [Pd15V, Act.eval] at et92;have yA : ly 10 = true := by simp [hd]
            obtain ⟨hh, hs⟩ := hW.2.2 yA;rw [if_neg (by simp [hl])] at hh;have u0 := (cOH hh 0).trans rfl;have v0 := fOH hh 0;have u1 := (cOH hh 1).trans rfl;have v1 := fOH hh 1;have u2 := (cOH hh 2).trans rfl;have v2 := fOH hh 2;have zz := hL_ hh;exact ⟨(((wx.setCell ⟨sg, 0, none⟩ (.int .i64 x0)).setCell ⟨sg, 1, none⟩ (.int .i64 x1)).setCell ⟨sg, 2, none⟩ (.int .i64 0)), sg, .skip, by go_simp, .inl rfl, hW.store hiz.1 yA hl (by simp [Pd15Cnt, upd]) ((((Keep.refl _ _).setCell (.inl (by simp)) _).setCell (.inl (by simp)) _).setCell (.inl (by simp)) _) (hS_ (hS_ (hS_ (hh) 0 _) 1 _) 2 _) (by decide), fun _ _ _ h => h⟩
        intro sb af w8 hWW hF;have e10 := hF.new 10 10 (by decide) rfl;obtain ⟨ff, hf, rfl⟩ := hF.lit;rw [← hf] at e10;simp only [Pd15V] at e10;obtain ⟨kp8, dr8, hs8⟩ := hWW;obtain ⟨hs8, ge8⟩ := hs8 rfl;simp only [List.length_cons, List.length_nil, Nat.reduceAdd, Nat.reduceLT, decide_true, if_true] at hs8;have S8 : Own w.heap.size w [.blk pb (.cells (prtV Ac cc Ab cb p) 44 (0, 0)), .blk rb (.cells #[.int .i64 0, .slice none 0 0, .slice none 0 0] 49 (0, 0)), .nx ib lb, .blk ob (.cells #[.int .i64 hours, .slice (Al) (k) (cl), .slice (As) (j) (cs)] 49 (0, 0)), .own 52 6 (Al) (k) (cl) (cacs calls) fa, .own 65 3 (As) (j) (cs) (swcs swps) fs, .own 4 1 (some ⟨ub, 0, none⟩) p.bts.length p.bts.length (bools busy) [ub], .blk sb (.cells #[.int .i64 x0, .int .i64 x1, .int .i64 0] 65 (0, 0))] w8 := HT.out.1.nextNew 2 rfl ⟨A0, c0, l0, _, dr8, HX.out.2.2.2.1, HX.out.2.2.2.2.1, HX.out.2.2.2.2.2.1, hiz.2.2.1, hiz.2.2.2.1, HX.out.2.2.2.2.2.2.2⟩ kp8 (i := .blk sb (.cells #[.int .i64 x0, .int .i64 x1, .int .i64 0] 65 (0, 0))) hs8 (by simpa [It.fp] using ge8);clear hf hF kp8 dr8 hs8 ge8 hiz hapz;simp only [List.filterMap, List.foldl, List.setIfInBounds_toArray, List.set_cons_succ, List.set_cons_zero, e10];clear e10;have hpc := S8.heap 0 rfl;have hoc := S8.heap 3 rfl;have p2 : w8.cell? ⟨pb, 2, none⟩ = some (.int .i64 p.tugs) := (cOH hpc 2).trans rfl;have o1 : w8.cell? ⟨ob, 1, none⟩ = some (.slice Al k cl) := (cOH hoc 1).trans rfl;have zp := hL_ hpc;have zo := hL_ hoc;have HS8 := Lib.hid S8;clear S8 hpc hoc;go_upto_region 18 with fail
        clear p2 o1 zp zo
        go_loopg [11, 98] k (fun g lv i wx => ∃ n : Nat, g + n = k ∧ i = .int .i64 n ∧ lv = .int .i64 (p.tugs - tgC x0 (calls.take n)) ∧ Own w.heap.size w [.blk pb (.cells (prtV Ac cc Ab cb p) 44 (0, 0)), .blk rb (.cells #[.int .i64 0, .slice none 0 0, .slice none 0 0] 49 (0, 0)), .nx ib lb, .blk ob (.cells #[.int .i64 hours, .slice (Al) (k) (cl), .slice (As) (j) (cs)] 49 (0, 0)), .own 52 6 (Al) (k) (cl) (cacs calls) fa, .own 65 3 (As) (j) (cs) (swcs swps) fs, .own 4 1 (some ⟨ub, 0, none⟩) p.bts.length p.bts.length (bools busy) [ub], .blk sb (.cells #[.int .i64 x0, .int .i64 x1, .int .i64 0] 65 (0, 0))] wx)
        case atStart => exact ⟨0, rfl, rfl, by simp [tgC], HS8.out⟩
        case round =>
          obtain ⟨n, hn, rfl, rfl, hO⟩ := hrel;have hT : ∀ m, 0 ≤ tgC x0 (calls.take m) ∧ tgC x0 (calls.take m) ≤ 48 := fun m => by
            have h1 := tgC_bd (h := x0) (l := calls.take m) (fun c hc => by have := HP.out.1.ca c (List.mem_of_mem_take hc); omega);have h2 : (calls.take m).length ≤ calls.length := by simp; omega
            have := HP.out.2;omega
          by_cases hlt2 : n < k
          · have hcn : n < calls.length := by rw [HP.out.2]; exact hlt2
            obtain ⟨gc, rfl, _, _, hc, _⟩ := (hO.owns 4 rfl).some_ (by omega);obtain ⟨q0, q1, q2, q3, q4, q5⟩ := cacs_get hcn;obtain ⟨x, hx⟩ : ∃ x, x = calls[n] := ⟨_, rfl⟩;rw [← hx] at q0 q1 q2 q3 q4 q5;have r0' := hc _ _ q0;have r1' := hc _ _ q1;have r2' := hc _ _ q2;have r3' := hc _ _ q3;have r4' := hc _ _ q4;have r5' := hc _ _ q5;have hxb := HP.out.1.ca x (by rw [hx]; exact List.getElem_mem _);have hxt : 0 ≤ x.tugs ∧ x.tugs ≤ 3 := by omega
            have hstep := tgC_take (h := x0) hcn;rw [← hx] at hstep;have hTn := hT n;have HU := Lib.hid (And.intro hO hstep);have ltc : gc < wr.heap.size := hO.lt 4 rfl (by simp [It.fp, *]);clear hO hstep hx q0 q1 q2 q3 q4 q5 hc hxb hT;go_upto_region 20 with fail
            obtain ⟨cbk, hcbk⟩ : ∃ b, b = wr.heap.size := ⟨_, rfl⟩;obtain ⟨X, hX⟩ : ∃ Y, Y = wr.alloc (.cells #[.int .i64 x.hour, .int .i64 x.berth, .bool x.out, .int .i64 x.draught, .int .i64 x.most, .int .i64 x.tugs] 52) := ⟨_, rfl⟩;rw [← hX, ← hcbk];have SX : Own w.heap.size w _ X := HU.out.1.below (by rw [hX]; exact (Below.refl _ _).alloc (Nat.le_refl _) _);have hcx : X.heap[cbk]? = some (.cells #[.int .i64 x.hour, .int .i64 x.berth, .bool x.out, .int .i64 x.draught, .int .i64 x.most, .int .i64 x.tugs] 52 (0, 0)) := by rw [hX, hcbk]; exact heap_alloc_new _ _
            have hsx := SX.heap 7 rfl;have y0 : X.cell? ⟨cbk, 0, none⟩ = some (.int .i64 x.hour) := (cOH hcx 0).trans rfl;have y5 : X.cell? ⟨cbk, 5, none⟩ = some (.int .i64 x.tugs) := (cOH hcx 5).trans rfl;have y1 : X.cell? ⟨sb, 0, none⟩ = some (.int .i64 x0) := (cOH hsx 0).trans rfl;have zc := hL_ hcx;have zs := hL_ hsx;have HSX := Lib.hid SX;clear SX hcx hsx hX hcbk r0' r1' r2' r3' r4' r5' ltc;by_cases hq : x.hour = x0
            · go_wp2_with fail
              go_roundg (gk - 1);case measure => omega
              case rel => exact ⟨n + 1, by omega, by go_num, by rw [HU.out.2, if_pos hq]; congr 1; omega, HSX.out⟩
            · go_wp2_with fail
              go_roundg (gk - 1);case measure => omega
              case rel => exact ⟨n + 1, by omega, by go_num, by rw [HU.out.2, if_neg hq]; congr 1; omega, HSX.out⟩
          · obtain rfl : n = k := by omega
            have hTn := hT n;have eT : calls.take n = calls := List.take_of_length_le (by rw [HP.out.2]; exact Nat.le_refl _);rw [eT] at hTn ⊢;have hoc := hO.heap 3 rfl;have o2 : wr.cell? ⟨ob, 2, none⟩ = some (.slice As j cs) := (cOH hoc 2).trans rfl;have zo := hL_ hoc;have HU := Lib.hid hO;clear hT eT hO hoc;go_upto_region 24 with fail
            clear o2 zo;obtain ⟨tc, htc⟩ : ∃ t, t = tgC x0 calls := ⟨_, rfl⟩;rw [← htc] at hTn ⊢;have HTC := Lib.hid htc;clear htc
            go_loopg [11, 115] j (fun g lv i wx => ∃ m : Nat, g + m = j ∧ i = .int .i64 m ∧ lv = .int .i64 (p.tugs - tc - tgS x0 (swps.take m)) ∧ Own w.heap.size w [.blk pb (.cells (prtV Ac cc Ab cb p) 44 (0, 0)), .blk rb (.cells #[.int .i64 0, .slice none 0 0, .slice none 0 0] 49 (0, 0)), .nx ib lb, .blk ob (.cells #[.int .i64 hours, .slice (Al) (n) (cl), .slice (As) (j) (cs)] 49 (0, 0)), .own 52 6 (Al) (n) (cl) (cacs calls) fa, .own 65 3 (As) (j) (cs) (swcs swps) fs, .own 4 1 (some ⟨ub, 0, none⟩) p.bts.length p.bts.length (bools busy) [ub], .blk sb (.cells #[.int .i64 x0, .int .i64 x1, .int .i64 0] 65 (0, 0))] wx)
            case atStart => exact ⟨0, rfl, rfl, by simp [tgS], HU.out⟩
            case round =>
              obtain ⟨m, hmj, rfl, rfl, hO⟩ := hrel;have hT : ∀ m, 0 ≤ tgS x0 (swps.take m) ∧ tgS x0 (swps.take m) ≤ 66 := fun m => by
                have h1 := tgS_bd (h := x0) (l := swps.take m) (fun c hc => by have := HT.out.2.1.sw c (List.mem_of_mem_take hc); omega);have h2 : (swps.take m).length ≤ swps.length := by simp; omega
                have := HT.out.2.2;omega
              by_cases hlt2 : m < j
              · have hcn : m < swps.length := by rw [HT.out.2.2]; exact hlt2
                obtain ⟨gc, rfl, _, _, hc, _⟩ := (hO.owns 5 rfl).some_ (by omega);obtain ⟨q0, q1, q2⟩ := swcs_get hcn;obtain ⟨x, hx⟩ : ∃ x, x = swps[m] := ⟨_, rfl⟩;rw [← hx] at q0 q1 q2;have r0' := hc _ _ q0;have r1' := hc _ _ q1;have r2' := hc _ _ q2;have hxb := HT.out.2.1.sw x (by rw [hx]; exact List.getElem_mem _);have hxt : 0 ≤ x.tugs ∧ x.tugs ≤ 6 := by omega
                have hstep := tgS_take (h := x0) hcn;rw [← hx] at hstep;have hTm := hT m;have HV := Lib.hid (And.intro hO hstep);have ltc : gc < wr.heap.size := hO.lt 5 rfl (by simp [It.fp, *]);clear hO hstep hx q0 q1 q2 hc hxb hT;go_upto_region 26 with fail
                obtain ⟨cbk, hcbk⟩ : ∃ b, b = wr.heap.size := ⟨_, rfl⟩;obtain ⟨X, hX⟩ : ∃ Y, Y = wr.alloc (.cells #[.int .i64 x.hour, .int .i64 x.channel, .int .i64 x.tugs] 65) := ⟨_, rfl⟩;rw [← hX, ← hcbk];have SX : Own w.heap.size w _ X := HV.out.1.below (by rw [hX]; exact (Below.refl _ _).alloc (Nat.le_refl _) _);have hcx : X.heap[cbk]? = some (.cells #[.int .i64 x.hour, .int .i64 x.channel, .int .i64 x.tugs] 65 (0, 0)) := by rw [hX, hcbk]; exact heap_alloc_new _ _
                have hsx := SX.heap 7 rfl;have y0 : X.cell? ⟨cbk, 0, none⟩ = some (.int .i64 x.hour) := (cOH hcx 0).trans rfl;have y5 : X.cell? ⟨cbk, 2, none⟩ = some (.int .i64 x.tugs) := (cOH hcx 2).trans rfl;have y1 : X.cell? ⟨sb, 0, none⟩ = some (.int .i64 x0) := (cOH hsx 0).trans rfl;have zc := hL_ hcx;have zs := hL_ hsx;have HSX := Lib.hid SX;clear SX hcx hsx hX hcbk r0' r1' r2' ltc;by_cases hq : x.hour = x0
                · go_wp2_with fail
                  go_roundg (gk - 1);case measure => omega
                  case rel => exact ⟨m + 1, by omega, by go_num, by rw [HV.out.2, if_pos hq]; congr 1; omega, HSX.out⟩
                · go_wp2_with fail
                  go_roundg (gk - 1);case measure => omega
                  case rel => exact ⟨m + 1, by omega, by go_num, by rw [HV.out.2, if_neg hq]; congr 1; omega, HSX.out⟩
              · obtain rfl : m = j := by omega
                have hTm := hT m;have eT : swps.take m = swps := List.take_of_length_le (by rw [HT.out.2.2]; exact Nat.le_refl _);rw [eT] at hTm ⊢;obtain ⟨ts, hts⟩ : ∃ t, t = tgS x0 swps := ⟨_, rfl⟩;rw [← hts] at hTm ⊢;have HTS := Lib.hid hts;have HV := Lib.hid hO;clear hT eT hts hO;by_cases hpos : 0 < p.tugs - tc - ts
                · go_upto_region 31 with (go_at_call 24; refine (next_some (p.tugs - tc - ts) (HV.out.nxt 2 rfl) (by omega)).mono ?_; rintro e w9 ⟨z, rfl, ⟨z1, z2⟩, nx3, k3, s3⟩; have HS9 := Lib.hid (HV.out.next 2 rfl nx3 k3); clear nx3 k3 s3; have hsx := HS9.out.heap 7 rfl; have y2 : w9.cell? ⟨sb, 2, none⟩ = some (.int .i64 0) := (cOH hsx 2).trans rfl; have f2 := fOH hsx 2; have zs := hL_ hsx; clear hsx)
                  obtain ⟨X9, hX9⟩ : ∃ Y, Y = w9.setCell ⟨sb, 2, none⟩ (.int .i64 (1 + z)) := ⟨_, rfl⟩;rw [← hX9];have S9 := HS9.out.set 7 rfl (w' := X9) (by rw [hX9]; exact (Keep.refl _ _).setCell (.inl (by simp)) _) (by rw [hX9]; exact hS_ (HS9.out.heap 7 rfl) 2 _);have hsx := S9.heap 7 rfl;have hoc := S9.heap 3 rfl;have y0 : X9.cell? ⟨sb, 0, none⟩ = some (.int .i64 x0) := (cOH hsx 0).trans rfl;have y1 : X9.cell? ⟨sb, 1, none⟩ = some (.int .i64 x1) := (cOH hsx 1).trans rfl;have y3 : X9.cell? ⟨sb, 2, none⟩ = some (.int .i64 (1 + z)) := (cOH hsx 2).trans rfl;have o2 : X9.cell? ⟨ob, 2, none⟩ = some (.slice As m cs) := (cOH hoc 2).trans rfl;have zs := hL_ hsx;have zo := hL_ hoc;have OB : OwnS X9 65 3 As m cs (swcs swps) fs := S9.owns 5 rfl;have HS9' := Lib.hid (And.intro S9 OB);clear OB;clear S9 hsx hoc hX9 y2 f2
                  go_wp2_with (at_builtin
                               (
                                 refine wpList_append_S (size := 3) rfl (.tmp 137) (.tmp 139) 47 rfl iS _ 24 Try.underlying47 hS0 hS1 hS2 (by decide) hS3 rfl (A := As) (n := m) (c := cs) (xs := swcs swps) (fp := fs) (by simp [Act.eval]) ⟨X9.heap.size, 0, none⟩ (by simp [Act.eval]) [.int .i64 x0, .int .i64 x1, .int .i64 (1 + z)] (HS9'.out.2.alloc _) rfl ?_ (by simp [Value.oneCell']) (by omega) (by omega) ?_
                                 · intro i v hv;rw [show (⟨X9.heap.size, 0, none⟩ : Addr).add i = ⟨X9.heap.size, i, none⟩ from by simp [Addr.add]; omega, World.cell?_alloc_new];simpa using hv
                                 intro g c' w10 q1 q2 q3 q4;have SA := HS9'.out.1.below ((Below.refl X9.heap.size X9).alloc (Nat.le_refl _) (.cells #[.int .i64 x0, .int .i64 x1, .int .i64 (1 + z)] 65));have SB := SA.upd 5 rfl (i' := .own 65 3 (some ⟨g, 0, none⟩) (m + 1) c' (swcs swps ++ swc ⟨x0, x1, 1 + z⟩) [g]) q4 q1 (fun x hx => by rw [List.mem_singleton.1 hx]; rcases q2 with e | e; exact .inl e; exact .inr (Nat.le_of_eq e));have hoc := SB.heap 3 rfl;have d2 : w10.cell? ⟨ob, 2, none⟩ = some (.slice As m cs) := (cOH hoc 2).trans rfl;have e2 := fOH hoc 2;have zq := hL_ hoc;have HSB := Lib.hid SB;clear SA SB hoc q1 q2 q3 q4))
                  have SF := HSB.out.set 3 rfl (w' := w10.setCell ⟨ob, 2, none⟩ (.slice (some ⟨g, 0, none⟩) (m + 1) c')) ((Keep.refl _ _).setCell (.inl (by simp)) _) (hS_ (HSB.out.heap 3 rfl) 2 _);go_roundg (G2 - 1);case measure => omega
                  case rel =>
                    refine ⟨r + 1, m + 1, swps ++ [⟨x0, x1, 1 + z⟩], some ⟨g, 0, none⟩, c', [g], by omega, by omega, by go_num, by rw [List.length_append, HT.out.2.2]; rfl, HT.out.2.1.push HPB.out.2.1 r0 r1 ?_ (by rw [← HTC.out]; exact hTn.1) (by rw [← HTS.out]; exact hTm.1), ?_⟩
                    · rw [← HTC.out, ← HTS.out]; omega
                    · have e : swcs swps ++ swc ⟨x0, x1, 1 + z⟩ = swcs (swps ++ [⟨x0, x1, 1 + z⟩]) := (flat_snoc _ _ _).symm;have h := SF.take 7;simp only [e] at h;exact h
                · go_wp2_with fail
                  go_roundg (G2 - 1);case measure => omega
                  case rel => exact ⟨r + 1, m, swps, As, cs, fs, by omega, by omega, by go_num, HT.out.2.2, HT.out.2.1, HV.out.take 7⟩
      · obtain rfl : r = mm := by omega
        have hoc := hO.heap 3 rfl;have hrc := hO.heap 1 rfl;have o0 := (cOH hoc 0).trans rfl;have o1 := (cOH hoc 1).trans rfl;have o2 := (cOH hoc 2).trans rfl;have d0 := (cOH hrc 0).trans rfl;have d1 := (cOH hrc 1).trans rfl;have d2 := (cOH hrc 2).trans rfl;have f0 := fOH hrc 0;have f1 := fOH hrc 1;have f2 := fOH hrc 2;have zo := hL_ hoc;have zr := hL_ hrc;have HT := Lib.hid (And.intro hO (And.intro hP2 (And.intro hsl hrc)));clear hO hP2 hsl hoc hrc;go_wp2_with fail
        have hh := st3_heap' HT.out.2.2.2 (.int .i64 hours) (.slice Al k cl) (.slice As j cs);have k0 := cOH hh 0;have k1 := cOH hh 1;have k2 := cOH hh 2;refine bodyPost_ret (v := .agg #[.int .i64 hours, .slice Al k cl, .slice As j cs]) (by simp [results, Try.results11, go_sem, k0, k1, k2]) rfl ?_;have SF := HT.out.1.set 1 rfl (w' := ((wr.setCell ⟨rb, 0, none⟩ (.int .i64 hours)).setCell ⟨rb, 1, none⟩ (.slice Al k cl)).setCell ⟨rb, 2, none⟩ (.slice As j cs)) ((((Keep.refl _ _).setCell (.inl (by simp)) _).setCell (.inl (by simp)) _).setCell (.inl (by simp)) _) hh;refine ⟨Al, cl, As, cs, ⟨hours, calls, swps⟩, _, _, ?_, MdL.of HP.out.1 HT.out.2.1 hhb (by rw [HP.out.2]; exact hk8) (by rw [HT.out.2.2.1]; omega), ?_, ?_, fun x hx => SF.ge 4 rfl hx, fun x hx => SF.ge 5 rfl hx, fun x hx => SF.dis 4 5 _ _ rfl rfl (by decide) x hx, SF.bel⟩
        · simp only [plnV, HP.out.2, HT.out.2.2.1]
        · simp only [HP.out.2]; exact SF.owns 4 rfl
        · simp only [HT.out.2.2.1]; exact SF.owns 5 rfl
end Go.Proofs.Ytalcinepeofmcaa
