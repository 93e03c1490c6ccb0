import Derived.Test.YtalcinepeofmcaaGreatPBp6
import Derived.Test.YtalcinepeofmcaaGreatPBp3
import Derived.Test.YtalcinepeofmcaaGreatPBp1
import Derived.Deep.DeepCutAuto
import Derived.WalkKit
set_option linter.unusedVariables false
set_option linter.unusedSimpArgs false
set_option maxRecDepth 100000
set_option maxHeartbeats 40000000
namespace Go.Proofs.YtalcinepeofmcaaGreat
open Go Go.RowKit Go.WideMaps Sp Pt
theorem arrK : ArrKey Tryz.prog 165 3 2 := ⟨Tryz.underlying165, by kernel_rfl, by kernel_rfl, by kernel_rfl⟩
theorem lawK : KeyLaw Tryz.prog 165 := arrK.law
theorem zeroI (w : World) : (zeroValue 3).run Tryz.prog w = .ok (.int .i64 0) w := by kernel_rfl
theorem sizeK : ∃ m, Tryz.prog.types.size = m + 1 := by
  have h : 0 < Tryz.prog.types.size := of_decide_eq_true (by kernel_rfl);exact ⟨Tryz.prog.types.size - 1, by omega⟩
abbrev kyV (h n : Int) : Value := .agg #[.int .i64 h, .int .i64 n]
theorem wf_far {x : Int} (h : -1000000 ≤ x ∧ x ≤ 1000000) : (Lit.int .i64 x).wf = true := by simp [Lit.wf, IntKind.min, IntKind.max, IntKind.signed, IntKind.bits]; omega
theorem ky_key {h n : Int} (hh : -1000000 ≤ h ∧ h ≤ 1000000) (hn : -1000000 ≤ n ∧ n ≤ 1000000) : ∃ l, keyOf Tryz.prog 165 (kyV h n) = some l :=
  ⟨_, keyOf_pair arrK Tryz.underlying3 sizeK (wf_far (by omega)) (wf_far (by omega))⟩
open Classical in
noncomputable def cntV (l : List (Int × Int)) (v : Value) : Int := ((l.countP fun p => decide (kyV p.1 p.2 = v) : Nat) : Int)
theorem cntV_ky (l : List (Int × Int)) (h n : Int) : cntV l (kyV h n) = (l.count (h, n) : Nat) := by
  unfold cntV List.count
  congr 1
  refine List.countP_congr fun p _ => ?_;obtain ⟨a, b⟩ := p;simp
theorem cntV_cons {l : List (Int × Int)} {h n : Int} {v : Value} (hv : v ≠ kyV h n) : cntV ((h, n) :: l) v = cntV l v := by
  unfold cntV;rw [List.countP_cons, if_neg (by simpa using fun e => hv e.symm)]; rfl
theorem cntV_nil (v : Value) : cntV [] v = 0 := rfl
structure PlSt (W w : World) (mb tb wb H : Nat) (t : Tly) : Prop where
  kp : Keep [mb, tb, wb] W w
  tg : w.heap[tb]? = some (.cells (ints t.tugs).toArray 3 (0, 0))
  tl : t.tugs.length = H
  wg : w.heap[wb]? = some (.cells (bools t.twice).toArray 4 (0, 0))
  wl : t.twice.length = H
  mp : MapI Tryz.prog 165 w mb t.hits.length (cntV t.hits)
def PeV (W0 : World) (mb xb N : Nat) (f : Value → Int) (g : Value → Int) (h n c : Int) (s : Nat) : Nat → Value → Prop
  | 0, v => v = .map (some mb)
  | 1, v => v = .pointer (some ⟨xb, 0, none⟩)
  | 2, v => v = .int .i64 h
  | 3, v => v = .int .i64 n
  | 4, v => v = kyV h n
  | 5, v => v = .int .i64 c
  | 6, v => v = .int .i64 (c + 1)
  | 7, v => v = .tuple #[.int .i64 c, goInt (s : Int)]
  | 8, v => v = goInt (s : Int)
  | _, _ => True
def PeW (W0 : World) (mb xb N : Nat) (f : Value → Int) (g : Value → Int) (h n c : Int) (s : Nat) (l : Nat → Bool) (w : World) : Prop := Keep [mb] W0 w ∧ (if l 9 then MapI Tryz.prog 165 w mb (N + 1) g else if l 7 then MapIAt Tryz.prog 165 w mb (N + 1) f (kyV h n) s else MapI Tryz.prog 165 w mb N f)
def PttV (W0 : World) (mb wb xb k H : Nat) (n c : Int) (tw z : Bool) : Nat → Value → Prop
  | 0, v => v = .slice (some ⟨wb, 0, none⟩) H H
  | 1, v => v = .pointer (some ⟨xb, 0, none⟩)
  | 2, v => v = .int .i64 k
  | 3, v => v = .slice (some ⟨wb, 0, none⟩) H H
  | 4, v => v = .pointer (some ⟨xb, 0, none⟩)
  | 5, v => v = .int .i64 k
  | 6, v => v = .pointer (some ⟨wb, k, none⟩)
  | 7, v => v = .bool tw
  | 8, v => v = .bool tw
  | 16, v => v = .bool (tw || z)
  | 17, v => v = .pointer (some ⟨wb, k, none⟩)
  | _, _ => True
def PttW (W0 : World) (mb wb xb k H : Nat) (n c : Int) (tw z : Bool) (l : Nat → Bool) (w : World) : Prop := if l 18 then w = (W0.setCell ⟨wb, k, none⟩ (.bool (tw || z))).drew else w = W0.drew
def PtfV (W0 : World) (mb wb xb k H : Nat) (n c : Int) (tw z : Bool) : Nat → Value → Prop
  | 0, v => v = .slice (some ⟨wb, 0, none⟩) H H
  | 1, v => v = .pointer (some ⟨xb, 0, none⟩)
  | 2, v => v = .int .i64 k
  | 3, v => v = .slice (some ⟨wb, 0, none⟩) H H
  | 4, v => v = .pointer (some ⟨xb, 0, none⟩)
  | 5, v => v = .int .i64 k
  | 6, v => v = .pointer (some ⟨wb, k, none⟩)
  | 7, v => v = .bool tw
  | 8, v => v = .bool tw
  | 9, v => v = .map (some mb)
  | 10, v => v = .pointer (some ⟨xb, 0, none⟩)
  | 11, v => v = .int .i64 k
  | 12, v => v = .int .i64 n
  | 13, v => v = kyV k n
  | 14, v => v = .int .i64 (c + 1)
  | 15, v => v = .bool z
  | 16, v => v = .bool (tw || z)
  | 17, v => v = .pointer (some ⟨wb, k, none⟩)
  | _, _ => True
def PtfW (W0 : World) (mb wb xb k H : Nat) (n c : Int) (tw z : Bool) (l : Nat → Bool) (w : World) : Prop := if l 18 then w = (W0.setCell ⟨wb, k, none⟩ (.bool (tw || z))).drew else w = W0.drew
theorem plIn {W0 wr : World} {mb tb wb xb pb po H L ck j : Nat} {t : Tly} {h n : Int} (S : PlSt W0 wr mb tb wb H t) (hx : W0.cell? ⟨xb, 0, none⟩ = some (.int .i64 h)) (hxn : xb ∉ [mb, tb, wb]) (hp : W0.cell? ⟨pb, po + j, none⟩ = some (.int .i64 n)) (hpn : pb ∉ [mb, tb, wb]) (hh : 0 ≤ h ∧ h < H) (hH : H ≤ 1000) (hN : t.hits.length ≤ 100000) (hj : j < L) (hL : L ≤ 1000) (hn : -1000 ≤ n ∧ n ≤ 1000) (hne : mb ≠ tb ∧ mb ≠ wb ∧ tb ≠ wb) {s0 s1 s2 s3 s4 s5 s6 s7 s8 s9 s10 s11 s13 s15 s17 s18 s19 s20 s21 s22 s23 s24 s25 s26 s27 s28 s29 s30 s31 s32 s33 s34 s35 s36 s37 s38 s39 s40 s41 s42 s43 s44 s45 s46 s47 s48 s49 s50 s51 s52 s53 s54 s55 s56 s57 s58 s59 s60 s61 s62 s63 s64 s65 s66 s67 s68 s69 s70 s71 s72 s73 s74 s75 s76 s77 s78 s79 s80 s81 s82 s83 s84 s85 s86 s87 s88 s89 s90 s91 s92 s93 s94 s95 s96 s97 s98 s99 s100 s101 s102 s103 s104 s105 s106 s107 s108 s109 s110 s111 s112 s113 s114 s115 s116 s117 s118 s119 s120 s124 s125 s126 s127 s128 s129 s130 s131 s132 s133 s134 s135 s136 s137 s138 s139 s140 s141 s142 s143 s144 s145 s146 s147 s148 s149 s150 s151 s152 s153 s154 s155 s156 s157 s158 s159 s160 s161 s162 s163 s164 s165 s166 s167 s168 s169 s170 s171 s172 s173 s174 s175 s176 s177 s178 s179 s180 s181 s182 s183 s184 s185 s186 s187 s188 s189 s190 : Value} {Q0 : Exit → Act → World → Prop} {Inv : Act → World → Prop}
    (hInv : ∀ (t18 t124 t125 t126 t127 t128 t129 t130 t131 t132 t133 t134 t135 t136 t137 t138 t139 t140 t141 t142 t143 t144 t145 t146 t147 t148 t149 t150 t151 t152 t153 t154 : Value)  (w' : World), PlSt W0 w' mb tb wb H (hit1 h t n) → Inv ⟨#[s0, s1, s2, s3, s4, s5, s6, s7, s8, s9, s10, s11, .map (some mb), s13, .slice (some ⟨wb, 0, none⟩) H H, s15, .pointer (some ⟨xb, 0, none⟩), s17, t18, s19, s20, s21, s22, s23, s24, s25, s26, s27, s28, s29, s30, s31, s32, s33, s34, s35, s36, s37, s38, s39, s40, s41, s42, s43, s44, s45, s46, s47, s48, s49, s50, s51, s52, s53, s54, s55, s56, s57, s58, s59, s60, s61, s62, s63, s64, s65, s66, s67, s68, s69, s70, s71, s72, s73, s74, s75, s76, s77, s78, s79, s80, s81, s82, s83, s84, s85, s86, s87, s88, s89, s90, s91, s92, s93, s94, s95, s96, s97, s98, s99, s100, s101, s102, s103, s104, s105, s106, s107, s108, s109, s110, s111, s112, s113, s114, s115, s116, s117, s118, s119, s120, .slice (some ⟨pb, po, none⟩) L ck, .int .i64 L, .int .i64 ((j + 1 : Nat) : Int), t124, t125, t126, t127, t128, t129, t130, t131, t132, t133, t134, t135, t136, t137, t138, t139, t140, t141, t142, t143, t144, t145, t146, t147, t148, t149, t150, t151, t152, t153, t154, s155, s156, s157, s158, s159, s160, s161, s162, s163, s164, s165, s166, s167, s168, s169, s170, s171, s172, s173, s174, s175, s176, s177, s178, s179, s180, s181, s182, s183, s184, s185, s186, s187, s188, s189, s190], []⟩ w') :
    Code.wp Tryz.prog (loopBody Tryz.f56 3) (Exit.then Inv Q0) ⟨#[s0, s1, s2, s3, s4, s5, s6, s7, s8, s9, s10, s11, .map (some mb), s13, .slice (some ⟨wb, 0, none⟩) H H, s15, .pointer (some ⟨xb, 0, none⟩), s17, s18, s19, s20, s21, s22, s23, s24, s25, s26, s27, s28, s29, s30, s31, s32, s33, s34, s35, s36, s37, s38, s39, s40, s41, s42, s43, s44, s45, s46, s47, s48, s49, s50, s51, s52, s53, s54, s55, s56, s57, s58, s59, s60, s61, s62, s63, s64, s65, s66, s67, s68, s69, s70, s71, s72, s73, s74, s75, s76, s77, s78, s79, s80, s81, s82, s83, s84, s85, s86, s87, s88, s89, s90, s91, s92, s93, s94, s95, s96, s97, s98, s99, s100, s101, s102, s103, s104, s105, s106, s107, s108, s109, s110, s111, s112, s113, s114, s115, s116, s117, s118, s119, s120, .slice (some ⟨pb, po, none⟩) L ck, .int .i64 L, .int .i64 j, s124, s125, s126, s127, s128, s129, s130, s131, s132, s133, s134, s135, s136, s137, s138, s139, s140, s141, s142, s143, s144, s145, s146, s147, s148, s149, s150, s151, s152, s153, s154, s155, s156, s157, s158, s159, s160, s161, s162, s163, s164, s165, s166, s167, s168, s169, s170, s171, s172, s173, s174, s175, s176, s177, s178, s179, s180, s181, s182, s183, s184, s185, s186, s187, s188, s189, s190], []⟩ wr := by
  conv => arg 2; whnf
  obtain ⟨hn1, hn2, hn3⟩ := hne;obtain ⟨k, rfl⟩ := Int.eq_ofNat_of_zero_le hh.1;have hk : k < H := by omega
  obtain ⟨c, hc⟩ : ∃ c : Int, c = cntV t.hits (kyV k n) := ⟨_, rfl⟩;have hcr : 0 ≤ c ∧ c ≤ 100000 := by rw [hc, cntV_ky]; have := List.count_le_length (l := t.hits) (a := ((k : Int), n)); omega
  have d0 := S.kp.cell hx hxn;have d1 := S.kp.cell hp hpn;have zx := World.block_lt_of_cell? _ _ d0;have zp := World.block_lt_of_cell? _ _ d1;have ekey := ky_key (h := k) (n := n) (by omega) (by omega);have HI := Lib.hid hInv;have HS := Lib.hid S;have HK := Lib.hid (And.intro ekey hc.symm);have HG := Lib.hid (And.intro (show cntV (((k : Int), n) :: t.hits) (kyV k n) = c + 1 by rw [cntV_ky, hc, cntV_ky, List.count_cons_self]; omega) (fun v hv => cntV_cons (l := t.hits) (h := k) (n := n) (v := v) hv));have HM := Lib.hid S.mp;have HXn := Lib.hid (And.intro hxn hpn);clear hInv S hx hp hc ekey hxn hpn;go_upto_region 34 with fail
  obtain ⟨W1, hW1⟩ : ∃ W1, W1 = wr := ⟨_, rfl⟩;obtain rfl : wr = W1 := hW1.symm;have HX := Lib.hid (And.intro d0 (show xb ∉ [mb] by have := HXn.out.1; simp at this ⊢; exact this.1));clear hW1;refine wRS (σ := Nat) (by kernel_rfl) (by kernel_rfl) (fun sg jx vx _ => PeV wr mb xb t.hits.length (cntV t.hits) (cntV (((k : Int), n) :: t.hits)) k n c sg jx vx) (fun sg ly wx => PeW wr mb xb t.hits.length (cntV t.hits) (cntV (((k : Int), n) :: t.hits)) k n c sg ly wx) 0 ?_ ?_ ?_
  · exact ⟨(Keep.refl _ _).drew, by rw [if_neg (by simp), if_neg (by simp)]; exact HM.out.of_heap rfl⟩
  · simp only [AllFrom, Nat.zero_add, Nat.reduceAdd];refine ⟨?_, ?_, ?_, ?_, ?_, ?_, ?_, ?_, ?_, ?_, trivial⟩
    · refine sP_ fun sg ly a wr hl hd hW hF => ?_;have et12 := hF.old 12 (by kernel_rfl);simp [Act.eval] at et12;exact ⟨by simpa [PeW, upd] using hW, .map (some mb), by go_simp, rfl⟩
    · refine sP_ fun sg ly a wr hl hd hW hF => ?_;have et16 := hF.old 16 (by kernel_rfl);simp [Act.eval] at et16;exact ⟨by simpa [PeW, upd] using hW, .pointer (some ⟨xb, 0, none⟩), by go_simp, rfl⟩
    · refine sP_ fun sg ly a wr hl hd hW hF => ?_;simp [Region.binds] at hd;have et128 := hF.new 1 128 (by simp [hd]) rfl;simp [PeV, Act.eval] at et128;have c0 := hW.1.cell HX.out.1 HX.out.2;exact ⟨by simpa [PeW, upd] using hW, _, by go_simp, rfl⟩
    · refine sP_ fun sg ly a wr hl hd hW hF => ?_;have et18 := hF.old 18 (by kernel_rfl);simp [Act.eval] at et18;exact ⟨by simpa [PeW, upd] using hW, .int .i64 n, by go_simp, rfl⟩
    · refine sP_ fun sg ly a wr hl hd hW hF => ?_;simp [Region.binds] at hd;have et129 := hF.new 2 129 (by simp [hd]) rfl;simp [PeV, Act.eval] at et129;have et130 := hF.new 3 130 (by simp [hd]) rfl;simp [PeV, Act.eval] at et130;exact ⟨by simpa [PeW, upd] using hW, kyV k n, by go_simp, rfl⟩
    · refine sP_ fun sg ly a wr hl hd hW hF => ?_;simp [Region.binds] at hd;have et127 := hF.new 0 127 (by simp [hd]) rfl;simp [PeV, Act.eval] at et127;have et131 := hF.new 4 131 (by simp [hd]) rfl;simp [PeV, Act.eval] at et131;have n9_6 := hF.notYet 5 6 hl (by kernel_rfl);have n9 := hF.notYet 6 9 n9_6 (by kernel_rfl);have hlk : (Instr.lookup 164 (.map (some mb)) (kyV k n) false).run Tryz.prog wr = .ok (.int .i64 c) wr := by
        have h2 := hW.2;rw [if_neg (by simp [n9])] at h2;obtain ⟨kl, hkl⟩ := HK.out.1;have := MapI.look lawK Tryz.underlying164 zeroI (mb := mb) (w := wr) (n := t.hits.length + 1) (f := cntV t.hits) (by split at h2; exact h2.mapI; exact h2.mono (by omega)) hkl;rw [this, HK.out.2]
      exact ⟨by simpa [PeW, upd] using hW, _, by go_simp, rfl⟩
    · refine sP_ fun sg ly a wr hl hd hW hF => ?_;simp [Region.binds] at hd;have et132 := hF.new 5 132 (by simp [hd]) rfl;simp [PeV, Act.eval] at et132;have ew := IntWalk.i64_in (c + 1) (by omega);exact ⟨by simpa [PeW, upd] using hW, .int .i64 (c + 1), by go_simp, rfl⟩
    · refine sR_ fun sg ly a wr hl hd hW hF => ?_;simp [Region.binds] at hd;have et127 := hF.new 0 127 (by simp [hd]) rfl;simp [PeV, Act.eval] at et127;have et131 := hF.new 4 131 (by simp [hd]) rfl;simp [PeV, Act.eval] at et131;have n9_8 := hF.notYet 7 8 hl (by kernel_rfl);have n9 := hF.notYet 8 9 n9_8 (by kernel_rfl);have h2 := hW.2;rw [if_neg (by simp [n9]), if_neg (by simp [hl])] at h2;obtain ⟨kl, hkl⟩ := HK.out.1;obtain ⟨st, w2, hr, hm, hkp, hsz⟩ := MapI.entry lawK Tryz.underlying164 zeroI h2 hkl;rw [HK.out.2] at hr;have n8 := hF.notYet 7 8 hl (by kernel_rfl);refine ⟨_, w2, st, by go_simp, ⟨hW.1.trans hkp (by simp), by simp [upd, n9]; exact hm⟩, rfl, ?_⟩;intro i u hi h;have i2 : i ≠ 7 := by rintro rfl; rw [hl] at hi; cases hi
      have i3 : i ≠ 8 := by rintro rfl; rw [n8] at hi; cases hi
      unfold PeV at h ⊢;split at h <;> first | exact h | exact absurd rfl i2 | exact absurd rfl i3
    · refine sP_ fun sg ly a wr hl hd hW hF => ?_;simp [Region.binds] at hd;have et134 := hF.new 7 134 (by simp [hd]) rfl;simp [PeV, Act.eval] at et134;exact ⟨by simpa [PeW, upd] using hW, goInt (sg : Int), by go_simp, rfl⟩
    · refine sS_ rfl fun sg ly a wr hl hd hW hF => ?_;simp [Region.binds] at hd;have et127 := hF.new 0 127 (by simp [hd]) rfl;simp [PeV, Act.eval] at et127;have et135 := hF.new 8 135 (by simp [hd]) rfl;simp [PeV, Act.eval] at et135;have et133 := hF.new 6 133 (by simp [hd]) rfl;simp [PeV, Act.eval] at et133;have y7 : ly 7 = true := by simp [hd]
      have h2 := hW.2;rw [if_neg (by simp [hl]), if_pos y7] at h2;obtain ⟨w2, hr, hm, hkp, hsz⟩ := MapIAt.store (P := Tryz.prog) (t := 164) h2 (c + 1) (cntV (((k : Int), n) :: t.hits)) HG.out.1 HG.out.2;have hr' : (Instr.entryStore 164 (.map (some mb)) (.int .i64 (sg : Int)) (.int .i64 (c + 1))).run Tryz.prog wr = .ok () w2 := hr;clear hr;exact ⟨w2, sg, .skip, by go_simp, .inl rfl, ⟨hW.1.trans hkp (by simp), by simp [upd]; exact hm⟩, fun _ _ _ h => h⟩
  intro sg a w2 hWW hF;obtain ⟨f2, hf2, rfl⟩ := hF.lit;obtain ⟨kp2, hm2⟩ := hWW;simp only [List.length_cons, List.length_nil, Nat.reduceAdd, Nat.reduceLT, decide_true, if_true] at hm2;have e0 := kp2.cell d0 (by have := HXn.out.1; simp at this ⊢; exact this.1);have gw := (kp2.block wb (hL_ HS.out.wg) (by simp; omega)).trans HS.out.wg;have gt := (kp2.block tb (hL_ HS.out.tg) (by simp; omega)).trans HS.out.tg;have zx2 := World.block_lt_of_cell? _ _ e0;have zw2 := hL_ gw;obtain ⟨tw, htw⟩ : ∃ tw, tw = t.twice.getD k false := ⟨_, rfl⟩;have e1 : w2.cell? ⟨wb, k, none⟩ = some (.bool tw) := by
    rw [cOH gw, List.getElem?_toArray, bools_get (by rw [HS.out.wl]; exact hk), htw]
  have q1 := fOH gw k;obtain ⟨kl, hkl⟩ := HK.out.1;have hlk : (Instr.lookup 164 (.map (some mb)) (kyV k n) false).run Tryz.prog w2.drew = .ok (.int .i64 (c + 1)) w2.drew := by
    rw [← HG.out.1];exact MapI.look (w := w2.drew) lawK Tryz.underlying164 zeroI (hm2.of_heap rfl) hkl
  have hcb : decide ((1 : Int) < c + 1) = decide (1 < t.hits.count ((k : Int), n) + 1) := by
    have := HK.out.2;rw [cntV_ky] at this;rw [← this];by_cases q : 0 < t.hits.count ((k : Int), n)
    · rw [decide_eq_true (by omega), decide_eq_true (by omega)]
    · rw [decide_eq_false (by omega), decide_eq_false (by omega)]
  obtain ⟨z, hz⟩ : ∃ z, z = decide ((1 : Int) < c + 1) := ⟨_, rfl⟩;have hzz : decide ((1 : Int) < c + 1) = z := hz.symm;have H2 := Lib.hid (And.intro kp2 (And.intro hm2 (And.intro gw (And.intro gt (And.intro htw (And.intro hcb hz))))));clear kp2 hm2 gw gt htw hkl hf2 hF HX HM HK HG d0 d1 zx zp hcb hz;simp only [List.filterMap, List.foldl, List.setIfInBounds_toArray, List.set_cons_succ, List.set_cons_zero];obtain ⟨x, hx⟩ : ∃ x, x = (tw || z) := ⟨_, rfl⟩;have fin : ∀ w', w' = (w2.setCell ⟨wb, k, none⟩ (.bool x)).drew → PlSt W0 w' mb tb wb H (hit1 k t n) := by
    rintro w' rfl;refine ⟨((HS.out.kp.trans H2.out.1 (by simp)).setCell (.inl (by simp)) _).drew, ?_, HS.out.tl, ?_, ?_, ?_⟩
    · exact (Below.heap_setCell _ _ _ tb (by simp; omega)).trans H2.out.2.2.2.1
    · have := hS_ (w := w2) H2.out.2.2.1 k (.bool x);show (w2.setCell ⟨wb, k, none⟩ (.bool x)).heap[wb]? = _;rw [this];simp only [hit1, Int.toNat_natCast, ← H2.out.2.2.2.2.1, ← H2.out.2.2.2.2.2.1, ← H2.out.2.2.2.2.2.2, ← hx]
      congr 2
      apply Array.ext';simp [bools, List.map_set]
    · simp [hit1, HS.out.wl]
    · exact H2.out.2.1.of_heap (Below.heap_setCell _ _ _ mb (by simp; omega))
  have HFIN := Lib.hid (And.intro hx fin);clear fin hx;have hzz2 : decide ((0 : Int) < c) = z := by rw [← hzz]; by_cases q : 0 < c; rw [decide_eq_true q, decide_eq_true (by omega)]; rw [decide_eq_false q, decide_eq_false (by omega)]
  go_upto_region 35 with fail
  have HE := Lib.hid (And.intro e0 (And.intro e1 (And.intro q1 (And.intro hlk (And.intro zx2 zw2)))));have hxw : xb ≠ wb := by have := HXn.out.1; simp at this; exact this.2.2
  clear e0 e1 q1 hlk zx2 zw2;cases tw
  · refine wp_region_stepsG (σ := Unit) (by kernel_rfl) (by kernel_rfl) (fun _ jx vx _ => PtfV w2 mb wb xb k H n c false z jx vx) (fun _ ly wx => PtfW w2 mb wb xb k H n c false z ly wx) () ?_ ?_ ?_
    · exact (by unfold PtfW; rw [if_neg (by simp)])
    · simp only [AllFrom, Nat.zero_add, Nat.reduceAdd];refine ⟨?_, ?_, ?_, ?_, ?_, ?_, ?_, ?_, ?_, ?_, ?_, ?_, ?_, ?_, ?_, ?_, ?_, ?_, ?_, trivial⟩
      · refine gP_ rfl ?_;refine sP_ fun sg ly a wr hl hd hW hF => ?_;have et14 := hF.old 14 (by kernel_rfl);simp [Act.eval] at et14;exact ⟨by simpa [PtfW, upd] using hW, .slice (some ⟨wb, 0, none⟩) H H, by go_simp, rfl⟩
      · refine gP_ rfl ?_;refine sP_ fun sg ly a wr hl hd hW hF => ?_;have et16 := hF.old 16 (by kernel_rfl);simp [Act.eval] at et16;exact ⟨by simpa [PtfW, upd] using hW, .pointer (some ⟨xb, 0, none⟩), by go_simp, rfl⟩
      · refine gP_ rfl ?_;refine sP_ fun sg ly a wr hl hd hW hF => ?_;simp [Region.binds] at hd;have et137 := hF.new 1 137 (by simp [hd]) rfl;simp [PtfV, Act.eval] at et137;have n18_17 := hF.notYet 2 17 hl (by kernel_rfl);have n18 := hF.notYet 17 18 n18_17 (by kernel_rfl);have hW' := hW;unfold PtfW at hW';rw [if_neg (by simp [n18])] at hW';subst hW';obtain ⟨e0, e1, q1, hlk, zx2, zw2⟩ := HE.out;exact ⟨by unfold PtfW; rw [if_neg (by simp [upd, n18])], _, by go_simp, rfl⟩
      · refine gP_ rfl ?_;refine sP_ fun sg ly a wr hl hd hW hF => ?_;have et14 := hF.old 14 (by kernel_rfl);simp [Act.eval] at et14;exact ⟨by simpa [PtfW, upd] using hW, .slice (some ⟨wb, 0, none⟩) H H, by go_simp, rfl⟩
      · refine gP_ rfl ?_;refine sP_ fun sg ly a wr hl hd hW hF => ?_;have et16 := hF.old 16 (by kernel_rfl);simp [Act.eval] at et16;exact ⟨by simpa [PtfW, upd] using hW, .pointer (some ⟨xb, 0, none⟩), by go_simp, rfl⟩
      · refine gP_ rfl ?_;refine sP_ fun sg ly a wr hl hd hW hF => ?_;simp [Region.binds] at hd;have et140 := hF.new 4 140 (by simp [hd]) rfl;simp [PtfV, Act.eval] at et140;have n18_6 := hF.notYet 5 6 hl (by kernel_rfl);have n18_7 := hF.notYet 6 7 n18_6 (by kernel_rfl);have n18_8 := hF.notYet 7 8 n18_7 (by kernel_rfl);have n18_16 := hF.notYet 8 16 n18_8 (by kernel_rfl);have n18 := hF.notYet 16 18 n18_16 (by kernel_rfl);have hW' := hW;unfold PtfW at hW';rw [if_neg (by simp [n18])] at hW';subst hW';obtain ⟨e0, e1, q1, hlk, zx2, zw2⟩ := HE.out;exact ⟨by unfold PtfW; rw [if_neg (by simp [upd, n18])], _, by go_simp, rfl⟩
      · refine gP_ rfl ?_;refine sP_ fun sg ly a wr hl hd hW hF => ?_;simp [Region.binds] at hd;have et139 := hF.new 3 139 (by simp [hd]) rfl;simp [PtfV, Act.eval] at et139;have et141 := hF.new 5 141 (by simp [hd]) rfl;simp [PtfV, Act.eval] at et141;exact ⟨by simpa [PtfW, upd] using hW, .pointer (some ⟨wb, k, none⟩), by go_simp, rfl⟩
      · refine gP_ rfl ?_;refine sP_ fun sg ly a wr hl hd hW hF => ?_;simp [Region.binds] at hd;have et142 := hF.new 6 142 (by simp [hd]) rfl;simp [PtfV, Act.eval] at et142;have n18_8 := hF.notYet 7 8 hl (by kernel_rfl);have n18_16 := hF.notYet 8 16 n18_8 (by kernel_rfl);have n18 := hF.notYet 16 18 n18_16 (by kernel_rfl);have hW' := hW;unfold PtfW at hW';rw [if_neg (by simp [n18])] at hW';subst hW';obtain ⟨e0, e1, q1, hlk, zx2, zw2⟩ := HE.out;exact ⟨by unfold PtfW; rw [if_neg (by simp [upd, n18])], _, by go_simp, rfl⟩
      · refine gP_ rfl ?_;refine sP_ fun sg ly a wr hl hd hW hF => ?_;simp [Region.binds] at hd;have et143 := hF.new 7 143 (by simp [hd]) rfl;simp [PtfV, Act.eval] at et143;exact ⟨by simpa [PtfW, upd] using hW, .bool false, by go_simp, rfl⟩
      · refine stepG_yes ?_ ?_;rotate_left
        · intro sg ly a wr hd hF;simp [Region.binds] at hd;exact wQ_ hF (g := 8) (d := 144) (z := false) (b := false) rfl rfl (by simp [hd]) (fun v hv => hv)
        refine sP_ fun sg ly a wr hl hd hW hF => ?_;have et12 := hF.old 12 (by kernel_rfl);simp [Act.eval] at et12;exact ⟨by simpa [PtfW, upd] using hW, .map (some mb), by go_simp, rfl⟩
      · refine stepG_yes ?_ ?_;rotate_left
        · intro sg ly a wr hd hF;simp [Region.binds] at hd;exact wQ_ hF (g := 8) (d := 144) (z := false) (b := false) rfl rfl (by simp [hd]) (fun v hv => hv)
        refine sP_ fun sg ly a wr hl hd hW hF => ?_;have et16 := hF.old 16 (by kernel_rfl);simp [Act.eval] at et16;exact ⟨by simpa [PtfW, upd] using hW, .pointer (some ⟨xb, 0, none⟩), by go_simp, rfl⟩
      · refine stepG_yes ?_ ?_;rotate_left
        · intro sg ly a wr hd hF;simp [Region.binds] at hd;exact wQ_ hF (g := 8) (d := 144) (z := false) (b := false) rfl rfl (by simp [hd]) (fun v hv => hv)
        refine sP_ fun sg ly a wr hl hd hW hF => ?_;simp [Region.binds] at hd;have et146 := hF.new 10 146 (by simp [hd]) rfl;simp [PtfV, Act.eval] at et146;have n18_13 := hF.notYet 11 13 hl (by kernel_rfl);have n18_14 := hF.notYet 13 14 n18_13 (by kernel_rfl);have n18_15 := hF.notYet 14 15 n18_14 (by kernel_rfl);have n18_16 := hF.notYet 15 16 n18_15 (by kernel_rfl);have n18 := hF.notYet 16 18 n18_16 (by kernel_rfl);have hW' := hW;unfold PtfW at hW';rw [if_neg (by simp [n18])] at hW';subst hW';obtain ⟨e0, e1, q1, hlk, zx2, zw2⟩ := HE.out;exact ⟨by unfold PtfW; rw [if_neg (by simp [upd, n18])], _, by go_simp, rfl⟩
      · refine stepG_yes ?_ ?_;rotate_left
        · intro sg ly a wr hd hF;simp [Region.binds] at hd;exact wQ_ hF (g := 8) (d := 144) (z := false) (b := false) rfl rfl (by simp [hd]) (fun v hv => hv)
        refine sP_ fun sg ly a wr hl hd hW hF => ?_;have et18 := hF.old 18 (by kernel_rfl);simp [Act.eval] at et18;exact ⟨by simpa [PtfW, upd] using hW, .int .i64 n, by go_simp, rfl⟩
      · refine stepG_yes ?_ ?_;rotate_left
        · intro sg ly a wr hd hF;simp [Region.binds] at hd;exact wQ_ hF (g := 8) (d := 144) (z := false) (b := false) rfl rfl (by simp [hd]) (fun v hv => hv)
        refine sP_ fun sg ly a wr hl hd hW hF => ?_;simp [Region.binds] at hd;have et147 := hF.new 11 147 (by simp [hd]) rfl;simp [PtfV, Act.eval] at et147;have et148 := hF.new 12 148 (by simp [hd]) rfl;simp [PtfV, Act.eval] at et148;exact ⟨by simpa [PtfW, upd] using hW, kyV k n, by go_simp, rfl⟩
      · refine stepG_yes ?_ ?_;rotate_left
        · intro sg ly a wr hd hF;simp [Region.binds] at hd;exact wQ_ hF (g := 8) (d := 144) (z := false) (b := false) rfl rfl (by simp [hd]) (fun v hv => hv)
        refine sP_ fun sg ly a wr hl hd hW hF => ?_;simp [Region.binds] at hd;have et145 := hF.new 9 145 (by simp [hd]) rfl;simp [PtfV, Act.eval] at et145;have et149 := hF.new 13 149 (by simp [hd]) rfl;simp [PtfV, Act.eval] at et149;have n18_15 := hF.notYet 14 15 hl (by kernel_rfl);have n18_16 := hF.notYet 15 16 n18_15 (by kernel_rfl);have n18 := hF.notYet 16 18 n18_16 (by kernel_rfl);have hW' := hW;unfold PtfW at hW';rw [if_neg (by simp [n18])] at hW';subst hW';obtain ⟨e0, e1, q1, hlk, zx2, zw2⟩ := HE.out;exact ⟨by unfold PtfW; rw [if_neg (by simp [upd, n18])], _, by go_simp, rfl⟩
      · refine stepG_yes ?_ ?_;rotate_left
        · intro sg ly a wr hd hF;simp [Region.binds] at hd;exact wQ_ hF (g := 8) (d := 144) (z := false) (b := false) rfl rfl (by simp [hd]) (fun v hv => hv)
        refine sP_ fun sg ly a wr hl hd hW hF => ?_;simp [Region.binds] at hd;have et150 := hF.new 14 150 (by simp [hd]) rfl;simp [PtfV, Act.eval] at et150;exact ⟨by simpa [PtfW, upd] using hW, .bool z, by go_simp, rfl⟩
      · refine gP_ rfl ?_;refine sP_ fun sg ly a wr hl hd hW hF => ?_;simp [Region.binds] at hd;have et144 := hF.new 8 144 (by simp [hd]) rfl;simp [PtfV, Act.eval] at et144;have et151 := hF.new 15 151 (by simp [hd]) rfl;simp [PtfV, Act.eval] at et151;exact ⟨by simpa [PtfW, upd] using hW, .bool (false || z), by go_simp, rfl⟩
      · refine gP_ rfl ?_;refine sP_ fun sg ly a wr hl hd hW hF => ?_;simp [Region.binds] at hd;have et136 := hF.new 0 136 (by simp [hd]) rfl;simp [PtfV, Act.eval] at et136;have et138 := hF.new 2 138 (by simp [hd]) rfl;simp [PtfV, Act.eval] at et138;exact ⟨by simpa [PtfW, upd] using hW, .pointer (some ⟨wb, k, none⟩), by go_simp, rfl⟩
      · refine gP_ rfl ?_;refine sS_ rfl fun sg ly a wr hl hd hW hF => ?_;simp [Region.binds] at hd;have et153 := hF.new 17 153 (by simp [hd]) rfl;simp [PtfV, Act.eval] at et153;have et152 := hF.new 16 152 (by simp [hd]) rfl;simp [PtfV, Act.eval] at et152;have hW' := hW;unfold PtfW at hW';rw [if_neg (by simp [hl])] at hW';subst hW';obtain ⟨e0, e1, q1, hlk, zx2, zw2⟩ := HE.out;refine ⟨(w2.setCell ⟨wb, k, none⟩ (.bool (false || z))).drew, (), .skip, by go_simp, .inl rfl, by unfold PtfW; rw [if_pos (by simp [upd])], fun _ _ _ h => h⟩
    intro sg a w5 hWW hF;obtain ⟨f5, hf5, rfl⟩ := hF.lit;have hw5 := HFIN.out.2 w5 (by rw [HFIN.out.1]; have h5 := hWW; unfold PtfW at h5; rw [if_pos (by simp)] at h5; exact h5);clear hf5 hF hWW;simp only [List.filterMap, List.foldl, List.setIfInBounds_toArray, List.set_cons_succ, List.set_cons_zero];have H5 := Lib.hid hw5;clear hw5;go_wp2_with fail
    exact HI.out _ _ _ _ _ _ _ _ _ _ _ _ _ _ _ _ _ _ _ _ _ _ _ _ _ _ _ _ _ _ _ _ _ H5.out
  · refine wp_region_stepsG (σ := Unit) (by kernel_rfl) (by kernel_rfl) (fun _ jx vx _ => PttV w2 mb wb xb k H n c true z jx vx) (fun _ ly wx => PttW w2 mb wb xb k H n c true z ly wx) () ?_ ?_ ?_
    · exact (by unfold PttW; rw [if_neg (by simp)])
    · simp only [AllFrom, Nat.zero_add, Nat.reduceAdd];refine ⟨?_, ?_, ?_, ?_, ?_, ?_, ?_, ?_, ?_, ?_, ?_, ?_, ?_, ?_, ?_, ?_, ?_, ?_, ?_, trivial⟩
      · refine gP_ rfl ?_;refine sP_ fun sg ly a wr hl hd hW hF => ?_;have et14 := hF.old 14 (by kernel_rfl);simp [Act.eval] at et14;exact ⟨by simpa [PttW, upd] using hW, .slice (some ⟨wb, 0, none⟩) H H, by go_simp, rfl⟩
      · refine gP_ rfl ?_;refine sP_ fun sg ly a wr hl hd hW hF => ?_;have et16 := hF.old 16 (by kernel_rfl);simp [Act.eval] at et16;exact ⟨by simpa [PttW, upd] using hW, .pointer (some ⟨xb, 0, none⟩), by go_simp, rfl⟩
      · refine gP_ rfl ?_;refine sP_ fun sg ly a wr hl hd hW hF => ?_;simp [Region.binds] at hd;have et137 := hF.new 1 137 (by simp [hd]) rfl;simp [PttV, Act.eval] at et137;have n18_17 := hF.notYet 2 17 hl (by kernel_rfl);have n18 := hF.notYet 17 18 n18_17 (by kernel_rfl);have hW' := hW;unfold PttW at hW';rw [if_neg (by simp [n18])] at hW';subst hW';obtain ⟨e0, e1, q1, hlk, zx2, zw2⟩ := HE.out;exact ⟨by unfold PttW; rw [if_neg (by simp [upd, n18])], _, by go_simp, rfl⟩
      · refine gP_ rfl ?_;refine sP_ fun sg ly a wr hl hd hW hF => ?_;have et14 := hF.old 14 (by kernel_rfl);simp [Act.eval] at et14;exact ⟨by simpa [PttW, upd] using hW, .slice (some ⟨wb, 0, none⟩) H H, by go_simp, rfl⟩
      · refine gP_ rfl ?_;refine sP_ fun sg ly a wr hl hd hW hF => ?_;have et16 := hF.old 16 (by kernel_rfl);simp [Act.eval] at et16;exact ⟨by simpa [PttW, upd] using hW, .pointer (some ⟨xb, 0, none⟩), by go_simp, rfl⟩
      · refine gP_ rfl ?_;refine sP_ fun sg ly a wr hl hd hW hF => ?_;simp [Region.binds] at hd;have et140 := hF.new 4 140 (by simp [hd]) rfl;simp [PttV, Act.eval] at et140;have n18_6 := hF.notYet 5 6 hl (by kernel_rfl);have n18_7 := hF.notYet 6 7 n18_6 (by kernel_rfl);have n18_8 := hF.notYet 7 8 n18_7 (by kernel_rfl);have n18_16 := hF.notYet 8 16 n18_8 (by kernel_rfl);have n18 := hF.notYet 16 18 n18_16 (by kernel_rfl);have hW' := hW;unfold PttW at hW';rw [if_neg (by simp [n18])] at hW';subst hW';obtain ⟨e0, e1, q1, hlk, zx2, zw2⟩ := HE.out;exact ⟨by unfold PttW; rw [if_neg (by simp [upd, n18])], _, by go_simp, rfl⟩
      · refine gP_ rfl ?_;refine sP_ fun sg ly a wr hl hd hW hF => ?_;simp [Region.binds] at hd;have et139 := hF.new 3 139 (by simp [hd]) rfl;simp [PttV, Act.eval] at et139;have et141 := hF.new 5 141 (by simp [hd]) rfl;simp [PttV, Act.eval] at et141;exact ⟨by simpa [PttW, upd] using hW, .pointer (some ⟨wb, k, none⟩), by go_simp, rfl⟩
      · refine gP_ rfl ?_;refine sP_ fun sg ly a wr hl hd hW hF => ?_;simp [Region.binds] at hd;have et142 := hF.new 6 142 (by simp [hd]) rfl;simp [PttV, Act.eval] at et142;have n18_8 := hF.notYet 7 8 hl (by kernel_rfl);have n18_16 := hF.notYet 8 16 n18_8 (by kernel_rfl);have n18 := hF.notYet 16 18 n18_16 (by kernel_rfl);have hW' := hW;unfold PttW at hW';rw [if_neg (by simp [n18])] at hW';subst hW';obtain ⟨e0, e1, q1, hlk, zx2, zw2⟩ := HE.out;exact ⟨by unfold PttW; rw [if_neg (by simp [upd, n18])], _, by go_simp, rfl⟩
      · refine gP_ rfl ?_;refine sP_ fun sg ly a wr hl hd hW hF => ?_;simp [Region.binds] at hd;have et143 := hF.new 7 143 (by simp [hd]) rfl;simp [PttV, Act.eval] at et143;exact ⟨by simpa [PttW, upd] using hW, .bool true, by go_simp, rfl⟩
      · refine stepG_no ?_ ?_;rotate_left
        · intro sg ly a wr hd hF;simp [Region.binds] at hd;exact wQ_ hF (g := 8) (d := 144) (z := true) (b := false) rfl rfl (by simp [hd]) (fun v hv => hv)
        exact fun sg ly a wr hl hW => ⟨by simpa [PttW, upd] using hW, trivial⟩
      · refine stepG_no ?_ ?_;rotate_left
        · intro sg ly a wr hd hF;simp [Region.binds] at hd;exact wQ_ hF (g := 8) (d := 144) (z := true) (b := false) rfl rfl (by simp [hd]) (fun v hv => hv)
        exact fun sg ly a wr hl hW => ⟨by simpa [PttW, upd] using hW, trivial⟩
      · refine stepG_no ?_ ?_;rotate_left
        · intro sg ly a wr hd hF;simp [Region.binds] at hd;exact wQ_ hF (g := 8) (d := 144) (z := true) (b := false) rfl rfl (by simp [hd]) (fun v hv => hv)
        exact fun sg ly a wr hl hW => ⟨by simpa [PttW, upd] using hW, trivial⟩
      · refine stepG_no ?_ ?_;rotate_left
        · intro sg ly a wr hd hF;simp [Region.binds] at hd;exact wQ_ hF (g := 8) (d := 144) (z := true) (b := false) rfl rfl (by simp [hd]) (fun v hv => hv)
        exact fun sg ly a wr hl hW => ⟨by simpa [PttW, upd] using hW, trivial⟩
      · refine stepG_no ?_ ?_;rotate_left
        · intro sg ly a wr hd hF;simp [Region.binds] at hd;exact wQ_ hF (g := 8) (d := 144) (z := true) (b := false) rfl rfl (by simp [hd]) (fun v hv => hv)
        exact fun sg ly a wr hl hW => ⟨by simpa [PttW, upd] using hW, trivial⟩
      · refine stepG_no ?_ ?_;rotate_left
        · intro sg ly a wr hd hF;simp [Region.binds] at hd;exact wQ_ hF (g := 8) (d := 144) (z := true) (b := false) rfl rfl (by simp [hd]) (fun v hv => hv)
        exact fun sg ly a wr hl hW => ⟨by simpa [PttW, upd] using hW, trivial⟩
      · refine stepG_no ?_ ?_;rotate_left
        · intro sg ly a wr hd hF;simp [Region.binds] at hd;exact wQ_ hF (g := 8) (d := 144) (z := true) (b := false) rfl rfl (by simp [hd]) (fun v hv => hv)
        exact fun sg ly a wr hl hW => ⟨by simpa [PttW, upd] using hW, trivial⟩
      · refine gP_ rfl ?_;refine sP_ fun sg ly a wr hl hd hW hF => ?_;have et144 := hF.new 8 144 (by simp [Region.binds] at hd; simp [hd]) rfl;simp [PttV, Act.eval] at et144;exact ⟨by simpa [PttW, upd] using hW, .bool (true || z), by go_simp, rfl⟩
      · refine gP_ rfl ?_;refine sP_ fun sg ly a wr hl hd hW hF => ?_;simp [Region.binds] at hd;have et136 := hF.new 0 136 (by simp [hd]) rfl;simp [PttV, Act.eval] at et136;have et138 := hF.new 2 138 (by simp [hd]) rfl;simp [PttV, Act.eval] at et138;exact ⟨by simpa [PttW, upd] using hW, .pointer (some ⟨wb, k, none⟩), by go_simp, rfl⟩
      · refine gP_ rfl ?_;refine sS_ rfl fun sg ly a wr hl hd hW hF => ?_;simp [Region.binds] at hd;have et153 := hF.new 17 153 (by simp [hd]) rfl;simp [PttV, Act.eval] at et153;have et152 := hF.new 16 152 (by simp [hd]) rfl;simp [PttV, Act.eval] at et152;have hW' := hW;unfold PttW at hW';rw [if_neg (by simp [hl])] at hW';subst hW';obtain ⟨e0, e1, q1, hlk, zx2, zw2⟩ := HE.out;refine ⟨(w2.setCell ⟨wb, k, none⟩ (.bool (true || z))).drew, (), .skip, by go_simp, .inl rfl, by unfold PttW; rw [if_pos (by simp [upd])], fun _ _ _ h => h⟩
    intro sg a w5 hWW hF;obtain ⟨f5, hf5, rfl⟩ := hF.lit;have hw5 := HFIN.out.2 w5 (by rw [HFIN.out.1]; have h5 := hWW; unfold PttW at h5; rw [if_pos (by simp)] at h5; exact h5);clear hf5 hF hWW;simp only [List.filterMap, List.foldl, List.setIfInBounds_toArray, List.set_cons_succ, List.set_cons_zero];have H5 := Lib.hid hw5;clear hw5;go_wp2_with fail
    exact HI.out _ _ _ _ _ _ _ _ _ _ _ _ _ _ _ _ _ _ _ _ _ _ _ _ _ _ _ _ _ _ _ _ _ H5.out
end Go.Proofs.YtalcinepeofmcaaGreat
namespace Go.Proofs.YtalcinepeofmcaaGreat
open Go Go.RowKit Go.WideMaps Sp Pt
section
variable {W w : World} {mb tb wb H : Nat} {t : Tly}
theorem PlSt.alloc (h : PlSt W w mb tb wb H t) (o : Obj) : PlSt W (w.alloc o) mb tb wb H t :=
  ⟨h.kp.alloc o, hA_ h.tg o, h.tl, hA_ h.wg o, h.wl, h.mp.of_heap (Below.heap_alloc _ _ _ h.mp.lt)⟩
theorem PlSt.tug (h : PlSt W w mb tb wb H t) {k : Nat} (x : Int) (hk : k < H) (hn : mb ≠ tb ∧ tb ≠ wb) : PlSt W (w.setCell ⟨tb, k, none⟩ (.int .i64 x)).drew mb tb wb H ⟨setI t.tugs k x, t.twice, t.hits⟩ := by
  refine ⟨(h.kp.setCell (.inl (by simp)) _).drew, ?_, ?_, ?_, h.wl, ?_⟩
  · have := hS_ h.tg k (.int .i64 x);show (w.setCell ⟨tb, k, none⟩ (.int .i64 x)).heap[tb]? = _;rw [this]
    congr 2
    apply Array.ext';simp [ints, setI, List.map_set]
  · simp [setI, h.tl]
  · exact (Below.heap_setCell _ _ _ wb (by simp; omega)).trans h.wg
  · exact h.mp.of_heap (Below.heap_setCell _ _ _ mb (by simp; omega))
theorem PlSt.start (h : PlSt W w mb tb wb H t) : PlSt w w mb tb wb H t := ⟨Keep.refl _ _, h.tg, h.tl, h.wg, h.wl, h.mp⟩
theorem PlSt.after {w' : World} {t' : Tly} (h : PlSt W w mb tb wb H t) (h' : PlSt w w' mb tb wb H t') : PlSt W w' mb tb wb H t' := ⟨h.kp.trans h'.kp (by simp), h'.tg, h'.tl, h'.wg, h'.wl, h'.mp⟩
end
theorem hits_hit1 (h : Int) (t : Tly) (l : List Int) : (l.foldl (hit1 h) t).hits.length = t.hits.length + l.length := by
  induction l generalizing t with
  | nil => rfl
  | cons n l ih => rw [List.foldl_cons, ih, List.length_cons]; simp [hit1]; omega
def PgV (W0 : World) (tb xb k H : Nat) (x tg : Int) : Nat → Value → Prop
  | 0, v => v = .slice (some ⟨tb, 0, none⟩) H H
  | 1, v => v = .pointer (some ⟨xb, 0, none⟩)
  | 2, v => v = .int .i64 k
  | 3, v => v = .pointer (some ⟨tb, k, none⟩)
  | 4, v => v = .int .i64 x
  | 5, v => v = .pointer (some ⟨xb, 5, none⟩)
  | 6, v => v = .int .i64 tg
  | 7, v => v = .int .i64 (x + tg)
  | 8, v => v = .pointer (some ⟨tb, k, none⟩)
  | _, _ => True
def PgW (W0 : World) (tb xb k H : Nat) (x tg : Int) (l : Nat → Bool) (w : World) : Prop := if l 9 then w = (W0.setCell ⟨tb, k, none⟩ (.int .i64 (x + tg))).drew else w = W0.drew
theorem plOut {W0 wr : World} {mb tb wb pb H L cl i D : Nat} {Al Ac Ab : Option Addr} {cc cb : Nat} {pr : Prt} {t : Tly} {cs : List Cal} (S : PlSt W0 wr mb tb wb H t) (hp : W0.heap[pb]? = some (.cells (prtV Ac cc Ab cb pr) 25 (0, 0))) (hpn : pb ∉ [mb, tb, wb]) (hb : BtsB D W0 Ab pr.bts) (hD : D ≤ mb ∧ D ≤ tb ∧ D ≤ wb ∧ D ≤ W0.heap.size) (hcs : RdB D W0 6 Al L (cacs cs)) (hL : cs.length = L) (hi : i < L) (hL2 : L ≤ 1000)
    (hc : 0 ≤ (cs.getD i default).berth ∧ (cs.getD i default).berth < pr.bts.length ∧ 0 ≤ (cs.getD i default).hour ∧ (cs.getD i default).hour < H ∧ -1000 ≤ (cs.getD i default).tugs ∧ (cs.getD i default).tugs ≤ 1000) (hpt : ∀ b ∈ pr.bts, b.path.length ≤ 1000 ∧ ∀ y ∈ b.path, -1000 ≤ y ∧ y ≤ 1000) (hbl : pr.bts.length ≤ 1000) (hH : H ≤ 1000) (hN : t.hits.length ≤ 90000) (htg : ∀ k, -1000000 ≤ getI t.tugs k ∧ getI t.tugs k ≤ 1000000) (hne : mb ≠ tb ∧ mb ≠ wb ∧ tb ≠ wb) {s0 s1 s3 s4 s5 s6 s7 s8 s9 s10 s11 s15 s16 s17 s18 s19 s20 s21 s22 s23 s24 s25 s26 s27 s28 s29 s30 s31 s32 s33 s34 s35 s36 s37 s38 s39 s40 s41 s42 s43 s44 s45 s46 s47 s48 s49 s50 s51 s52 s53 s54 s55 s56 s57 s58 s59 s60 s61 s62 s63 s64 s65 s66 s67 s68 s69 s70 s71 s72 s73 s74 s75 s76 s77 s78 s79 s80 s81 s82 s83 s84 s85 s86 s87 s88 s89 s90 s91 s92 s93 s94 s95 s96 s97 s98 s99 s103 s104 s105 s106 s107 s108 s109 s110 s111 s112 s113 s114 s115 s116 s117 s118 s119 s120 s121 s122 s123 s124 s125 s126 s127 s128 s129 s130 s131 s132 s133 s134 s135 s136 s137 s138 s139 s140 s141 s142 s143 s144 s145 s146 s147 s148 s149 s150 s151 s152 s153 s154 s155 s156 s157 s158 s159 s160 s161 s162 s163 s164 s165 s166 s167 s168 s169 s170 s171 s172 s173 s174 s175 s176 s177 s178 s179 s180 s181 s182 s183 s184 s185 s186 s187 s188 s189 s190 : Value} {Q0 : Exit → Act → World → Prop} {Inv : Act → World → Prop}
    (hInv : ∀ (t16 t18 t103 t104 t105 t106 t107 t108 t109 t110 t111 t112 t113 t114 t115 t116 t117 t118 t119 t120 t121 t122 t123 t124 t125 t126 t127 t128 t129 t130 t131 t132 t133 t134 t135 t136 t137 t138 t139 t140 t141 t142 t143 t144 t145 t146 t147 t148 t149 t150 t151 t152 t153 t154 t155 : Value)  (w' : World), PlSt W0 w' mb tb wb H (tlyCall pr t (cs.getD i default)) → Inv ⟨#[s0, s1, .pointer (some ⟨pb, 0, none⟩), s3, s4, s5, s6, s7, s8, s9, s10, s11, .map (some mb), .slice (some ⟨tb, 0, none⟩) H H, .slice (some ⟨wb, 0, none⟩) H H, s15, t16, s17, t18, s19, s20, s21, s22, s23, s24, s25, s26, s27, s28, s29, s30, s31, s32, s33, s34, s35, s36, s37, s38, s39, s40, s41, s42, s43, s44, s45, s46, s47, s48, s49, s50, s51, s52, s53, s54, s55, s56, s57, s58, s59, s60, s61, s62, s63, s64, s65, s66, s67, s68, s69, s70, s71, s72, s73, s74, s75, s76, s77, s78, s79, s80, s81, s82, s83, s84, s85, s86, s87, s88, s89, s90, s91, s92, s93, s94, s95, s96, s97, s98, s99, .slice Al L cl, .int .i64 L, .int .i64 ((i + 1 : Nat) : Int), t103, t104, t105, t106, t107, t108, t109, t110, t111, t112, t113, t114, t115, t116, t117, t118, t119, t120, t121, t122, t123, t124, t125, t126, t127, t128, t129, t130, t131, t132, t133, t134, t135, t136, t137, t138, t139, t140, t141, t142, t143, t144, t145, t146, t147, t148, t149, t150, t151, t152, t153, t154, t155, s156, s157, s158, s159, s160, s161, s162, s163, s164, s165, s166, s167, s168, s169, s170, s171, s172, s173, s174, s175, s176, s177, s178, s179, s180, s181, s182, s183, s184, s185, s186, s187, s188, s189, s190], []⟩ w') :
    Code.wp Tryz.prog (loopBody Tryz.f56 2) (Exit.then Inv Q0) ⟨#[s0, s1, .pointer (some ⟨pb, 0, none⟩), s3, s4, s5, s6, s7, s8, s9, s10, s11, .map (some mb), .slice (some ⟨tb, 0, none⟩) H H, .slice (some ⟨wb, 0, none⟩) H H, s15, s16, s17, s18, s19, s20, s21, s22, s23, s24, s25, s26, s27, s28, s29, s30, s31, s32, s33, s34, s35, s36, s37, s38, s39, s40, s41, s42, s43, s44, s45, s46, s47, s48, s49, s50, s51, s52, s53, s54, s55, s56, s57, s58, s59, s60, s61, s62, s63, s64, s65, s66, s67, s68, s69, s70, s71, s72, s73, s74, s75, s76, s77, s78, s79, s80, s81, s82, s83, s84, s85, s86, s87, s88, s89, s90, s91, s92, s93, s94, s95, s96, s97, s98, s99, .slice Al L cl, .int .i64 L, .int .i64 i, s103, s104, s105, s106, s107, s108, s109, s110, s111, s112, s113, s114, s115, s116, s117, s118, s119, s120, s121, s122, s123, s124, s125, s126, s127, s128, s129, s130, s131, s132, s133, s134, s135, s136, s137, s138, s139, s140, s141, s142, s143, s144, s145, s146, s147, s148, s149, s150, s151, s152, s153, s154, s155, s156, s157, s158, s159, s160, s161, s162, s163, s164, s165, s166, s167, s168, s169, s170, s171, s172, s173, s174, s175, s176, s177, s178, s179, s180, s181, s182, s183, s184, s185, s186, s187, s188, s189, s190], []⟩ wr := by
  conv => arg 2; whnf
  obtain ⟨bt0, bt1, hr0, hr1, tg0, tg1⟩ := hc;have hg : cs[i]'(by omega) = cs.getD i default := by simp [List.getD_eq_getElem?_getD, List.getElem?_eq_getElem (show i < cs.length by omega)]
  generalize cs.getD i default = x0 at *;obtain ⟨bc, oc, rfl, hbc, hcc⟩ := hcs.2 (by omega);obtain ⟨g0, g1, g2, g3, g4, g5⟩ := cacs_get (l := cs) (k := i) (by omega);rw [hg] at g0 g1 g2 g3 g4 g5;have hnD : ∀ b, b < D → b ∉ [mb, tb, wb] := fun b h => by simp; omega
  have cw : ∀ {o : Nat} {u : Value}, W0.cell? ⟨bc, o, none⟩ = some u → wr.cell? ⟨bc, o, none⟩ = some u := fun h => S.kp.cell h (hnD _ hbc);obtain ⟨ho, be, ou, dr, mo, tg⟩ := x0;simp only at bt0 bt1 hr0 hr1 tg0 tg1 g0 g1 g2 g3 g4 g5;obtain ⟨k, rfl⟩ := Int.eq_ofNat_of_zero_le hr0;obtain ⟨m, rfl⟩ := Int.eq_ofNat_of_zero_le bt0;have hk : k < H := by omega
  have hm : m < pr.bts.length := by omega
  have c0 := cw (hcc _ _ g0);have c1 : wr.cell? ⟨bc, oc + i * 6 + 1, none⟩ = _ := cw (hcc _ _ g1);have c2 : wr.cell? ⟨bc, oc + i * 6 + 2, none⟩ = _ := cw (hcc _ _ g2);have c3 : wr.cell? ⟨bc, oc + i * 6 + 3, none⟩ = _ := cw (hcc _ _ g3);have c4 : wr.cell? ⟨bc, oc + i * 6 + 4, none⟩ = _ := cw (hcc _ _ g4);have c5 : wr.cell? ⟨bc, oc + i * 6 + 5, none⟩ = _ := cw (hcc _ _ g5);have zc := World.block_lt_of_cell? _ _ c0;obtain ⟨W2, hW2⟩ : ∃ W2, W2 = wr.alloc (.cells #[.int .i64 k, .int .i64 m, .bool ou, .int .i64 dr, .int .i64 mo, .int .i64 tg] 124) := ⟨_, rfl⟩;obtain ⟨xb, hxb⟩ : ∃ xb, xb = wr.heap.size := ⟨_, rfl⟩;have hxh : W2.heap[xb]? = some (.cells #[.int .i64 k, .int .i64 m, .bool ou, .int .i64 dr, .int .i64 mo, .int .i64 tg] 124 (0, 0)) := by rw [hW2, hxb]; exact heap_alloc_new _ _
  have S2 : PlSt W0 W2 mb tb wb H t := by rw [hW2]; exact S.alloc _
  have hxn : xb ∉ [mb, tb, wb] := by have := S.mp.lt; have := hL_ S.tg; have := hL_ S.wg; simp; omega
  obtain ⟨x, hx⟩ : ∃ x, x = getI t.tugs k := ⟨_, rfl⟩;have hxr := htg k;rw [← hx] at hxr;have e1 : W2.cell? ⟨tb, k, none⟩ = some (.int .i64 x) := by rw [cOH S2.tg, List.getElem?_toArray, iG_ (by rw [S2.tl]; exact hk), hx]; simp [getI]
  have HE := Lib.hid (And.intro ((cOH hxh 0).trans rfl) (And.intro ((cOH hxh 5).trans rfl) (And.intro e1 (And.intro (fOH S2.tg k) (And.intro (hL_ hxh) (hL_ S2.tg))))));have HI := Lib.hid hInv;have HS := Lib.hid (And.intro S2 (And.intro hxh (And.intro hxn hx)));have HP := Lib.hid (And.intro hp (And.intro hpn (And.intro hb (And.intro hD (And.intro hpt hnD)))));have HN := Lib.hid hne;have n1 : (i : Int) < (L : Int) := by omega
  clear hInv S S2 hxh hxn hx hp hpn hb hpt hnD hcs hcc cw g0 g1 g2 g3 g4 g5 e1 htg hne hg;go_upto_region 30 with fail
  rw [← hW2, ← hxb];clear hW2 hxb c0 c1 c2 c3 c4 c5 zc;have k1 : (0 : Int) ≤ (k : Int) := by omega
  have k2 : (k : Int) < (H : Int) := by omega
  refine wRS (σ := Unit) (by kernel_rfl) (by kernel_rfl) (fun _ jx vx _ => PgV W2 tb xb k H x tg jx vx) (fun _ ly wx => PgW W2 tb xb k H x tg ly wx) () ?_ ?_ ?_
  · exact (by unfold PgW; rw [if_neg (by simp)])
  · simp only [AllFrom, Nat.zero_add, Nat.reduceAdd];refine ⟨?_, ?_, ?_, ?_, ?_, ?_, ?_, ?_, ?_, ?_, trivial⟩
    · refine sP_ fun sg ly a wr hl hd hW hF => ?_;have et13 := hF.old 13 (by kernel_rfl);simp [Act.eval] at et13;exact ⟨by simpa [PgW, upd] using hW, .slice (some ⟨tb, 0, none⟩) H H, by go_simp, rfl⟩
    · refine sP_ fun sg ly a wr hl hd hW hF => ?_;have et16 := hF.old 16 (by kernel_rfl);simp [Act.eval] at et16;exact ⟨by simpa [PgW, upd] using hW, .pointer (some ⟨xb, 0, none⟩), by go_simp, rfl⟩
    · refine sP_ fun sg ly a wr hl hd hW hF => ?_;simp [Region.binds] at hd;have et107 := hF.new 1 107 (by simp [hd]) rfl;simp [PgV, Act.eval] at et107;have n9_8 := hF.notYet 2 8 hl (by kernel_rfl);have n9 := hF.notYet 8 9 n9_8 (by kernel_rfl);have hW' := hW;unfold PgW at hW';rw [if_neg (by simp [n9])] at hW';subst hW';obtain ⟨d0, d5, e1, q1, zx, zt⟩ := HE.out;exact ⟨by unfold PgW; rw [if_neg (by simp [upd, n9])], _, by go_simp, rfl⟩
    · refine sP_ fun sg ly a wr hl hd hW hF => ?_;simp [Region.binds] at hd;have et106 := hF.new 0 106 (by simp [hd]) rfl;simp [PgV, Act.eval] at et106;have et108 := hF.new 2 108 (by simp [hd]) rfl;simp [PgV, Act.eval] at et108;exact ⟨by simpa [PgW, upd] using hW, .pointer (some ⟨tb, k, none⟩), by go_simp, rfl⟩
    · refine sP_ fun sg ly a wr hl hd hW hF => ?_;simp [Region.binds] at hd;have et109 := hF.new 3 109 (by simp [hd]) rfl;simp [PgV, Act.eval] at et109;have n9_7 := hF.notYet 4 7 hl (by kernel_rfl);have n9 := hF.notYet 7 9 n9_7 (by kernel_rfl);have hW' := hW;unfold PgW at hW';rw [if_neg (by simp [n9])] at hW';subst hW';obtain ⟨d0, d5, e1, q1, zx, zt⟩ := HE.out;exact ⟨by unfold PgW; rw [if_neg (by simp [upd, n9])], _, by go_simp, rfl⟩
    · refine sP_ fun sg ly a wr hl hd hW hF => ?_;have et16 := hF.old 16 (by kernel_rfl);simp [Act.eval] at et16;exact ⟨by simpa [PgW, upd] using hW, .pointer (some ⟨xb, 5, none⟩), by go_simp, rfl⟩
    · refine sP_ fun sg ly a wr hl hd hW hF => ?_;simp [Region.binds] at hd;have et111 := hF.new 5 111 (by simp [hd]) rfl;simp [PgV, Act.eval] at et111;have n9_7 := hF.notYet 6 7 hl (by kernel_rfl);have n9 := hF.notYet 7 9 n9_7 (by kernel_rfl);have hW' := hW;unfold PgW at hW';rw [if_neg (by simp [n9])] at hW';subst hW';obtain ⟨d0, d5, e1, q1, zx, zt⟩ := HE.out;exact ⟨by unfold PgW; rw [if_neg (by simp [upd, n9])], _, by go_simp, rfl⟩
    · refine sP_ fun sg ly a wr hl hd hW hF => ?_;simp [Region.binds] at hd;have et110 := hF.new 4 110 (by simp [hd]) rfl;simp [PgV, Act.eval] at et110;have et112 := hF.new 6 112 (by simp [hd]) rfl;simp [PgV, Act.eval] at et112;have ew := IntWalk.i64_in (x + tg) (by omega);exact ⟨by simpa [PgW, upd] using hW, .int .i64 (x + tg), by go_simp, rfl⟩
    · refine sP_ fun sg ly a wr hl hd hW hF => ?_;simp [Region.binds] at hd;have et106 := hF.new 0 106 (by simp [hd]) rfl;simp [PgV, Act.eval] at et106;have et108 := hF.new 2 108 (by simp [hd]) rfl;simp [PgV, Act.eval] at et108;exact ⟨by simpa [PgW, upd] using hW, .pointer (some ⟨tb, k, none⟩), by go_simp, rfl⟩
    · refine sS_ rfl fun sg ly a wr hl hd hW hF => ?_;simp [Region.binds] at hd;have et114 := hF.new 8 114 (by simp [hd]) rfl;simp [PgV, Act.eval] at et114;have et113 := hF.new 7 113 (by simp [hd]) rfl;simp [PgV, Act.eval] at et113;have hW' := hW;unfold PgW at hW';rw [if_neg (by simp [hl])] at hW';subst hW';obtain ⟨d0, d5, e1, q1, zx, zt⟩ := HE.out;refine ⟨(W2.setCell ⟨tb, k, none⟩ (.int .i64 (x + tg))).drew, (), .skip, by go_simp, .inl rfl, by unfold PgW; rw [if_pos (by simp [upd])], fun _ _ _ h => h⟩
  intro _ a w3 hWW hF;obtain ⟨f3, hf3, rfl⟩ := hF.lit;have hw3 : w3 = (W2.setCell ⟨tb, k, none⟩ (.int .i64 (x + tg))).drew := by
    have h5 := hWW;unfold PgW at h5
    rwa [if_pos (by simp)] at h5
  have S3 : PlSt W0 w3 mb tb wb H ⟨setI t.tugs k (x + tg), t.twice, t.hits⟩ := by rw [hw3]; exact HS.out.1.tug _ hk ⟨HN.out.1, HN.out.2.2⟩
  have hx3 : w3.heap[xb]? = some (.cells #[.int .i64 k, .int .i64 m, .bool ou, .int .i64 dr, .int .i64 mo, .int .i64 tg] 124 (0, 0)) := by
    rw [hw3];exact (Below.heap_setCell _ _ _ xb (by have := HS.out.2.2.1; simp at this ⊢; omega)).trans HS.out.2.1
  clear hf3 hF hWW hw3 HE;simp only [List.filterMap, List.foldl, List.setIfInBounds_toArray, List.set_cons_succ, List.set_cons_zero];have hp3 := (S3.kp.block pb (hL_ HP.out.1) HP.out.2.1).trans HP.out.1;obtain ⟨bk, ob, Ak, ck, rfl, hbk, b1, b2, b3⟩ := HP.out.2.2.1 m hm;obtain ⟨pth, hpth⟩ : ∃ q, q = pr.bts[m].path := ⟨_, rfl⟩;rw [← hpth] at b2 b3;have p1 : w3.cell? ⟨pb, 1, none⟩ = some (.slice (some ⟨bk, ob, none⟩) pr.bts.length cb) := (cOH hp3 1).trans rfl;have x1 : w3.cell? ⟨xb, 1, none⟩ = some (.int .i64 m) := (cOH hx3 1).trans rfl;have x0 : w3.cell? ⟨xb, 0, none⟩ = some (.int .i64 k) := (cOH hx3 0).trans rfl;have q2 := S3.kp.cell b2 (HP.out.2.2.2.2.2 _ hbk);have zp := hL_ hp3;have zx := hL_ hx3;have zb := World.block_lt_of_cell? _ _ q2;have m1 : (0 : Int) ≤ (m : Int) := by omega
  have m2 : (m : Int) < (pr.bts.length : Int) := by omega
  have hpl := (HP.out.2.2.2.2.1 _ (List.getElem_mem hm)).1;have hpy := (HP.out.2.2.2.2.1 _ (List.getElem_mem hm)).2;rw [← hpth] at hpl hpy;have hbtm : bt pr (m : Int) = pr.bts[m] := by simp [bt, hm]
  have H3 := Lib.hid (And.intro S3 (And.intro hx3 (And.intro b3 (And.intro hpth (And.intro hpy hbtm)))));have X3 := Lib.hid x0;clear S3 hx3 hp3 b1 b2 b3 hpth hpy hbtm x0;go_wp2_with fail
  go_loopw [123] (fun q wq => ∃ j : Nat, j ≤ pth.length ∧ q = .int .i64 j ∧ PlSt w3 wq mb tb wb H ((pth.take j).foldl (hit1 k) ⟨setI t.tugs k (x + tg), t.twice, t.hits⟩)) (fun q _ => pth.length - (intOf q).toNat)
  case atStart => exact ⟨0, Nat.zero_le _, rfl, H3.out.1.start⟩
  case round =>
    obtain ⟨j, hj, rfl, hS⟩ := hrel;by_cases hlt : j < pth.length
    · obtain ⟨pk, pq, rfl, hpk, hpc⟩ := H3.out.2.2.1.1.2 (by omega);have hcell := H3.out.1.kp.cell (hpc j _ (iG_ hlt)) (HP.out.2.2.2.2.2 _ hpk);have hy := H3.out.2.2.2.2.1 (pth.getD j 0) (by rw [List.getD_eq_getElem?_getD, List.getElem?_eq_getElem hlt]; exact List.getElem_mem hlt);refine plIn (n := pth.getD j 0) (h := k) hS X3.out HS.out.2.2.1 hcell (HP.out.2.2.2.2.2 _ hpk) ⟨k1, k2⟩ hH (by rw [hits_hit1, List.length_take]; simp only; omega) hlt hpl hy HN.out ?_;intro _ _ _ _ _ _ _ _ _ _ _ _ _ _ _ _ _ _ _ _ _ _ _ _ _ _ _ _ _ _ _ _ w' hr;refine ⟨?_, by simp [intOf]; omega⟩
      repeat apply Exists.intro
      refine ⟨?_, rfl⟩;refine ⟨j + 1, by omega, by go_num, ?_⟩;have e0 : (pth.take (j + 1)) = pth.take j ++ [pth.getD j 0] := by rw [List.take_succ_eq_append_getElem hlt, List.getD_eq_getElem?_getD, List.getElem?_eq_getElem hlt]; rfl
      rw [e0, List.foldl_append];exact hr
    · obtain rfl : j = pth.length := by omega
      have hfin := H3.out.1.after hS;rw [List.take_length] at hfin;have HF := Lib.hid hfin;clear hfin hS;go_wp2_with fail
      refine HI.out _ _ _ _ _ _ _ _ _ _ _ _ _ _ _ _ _ _ _ _ _ _ _ _ _ _ _ _ _ _ _ _ _ _ _ _ _ _ _ _ _ _ _ _ _ _ _ _ _ _ _ _ _ _ _ _ ?_;rw [tlyCall, H3.out.2.2.2.2.2, ← H3.out.2.2.2.1, ← HS.out.2.2.2];exact HF.out
end Go.Proofs.YtalcinepeofmcaaGreat
namespace Go.Proofs.YtalcinepeofmcaaGreat
open Go
def hasReg (n : Nat) : Code → Bool
  | .region k _ _ => k == n
  | .loop c => hasReg n c
  | .seq a b => hasReg n a || hasReg n b
  | .block _ c => hasReg n c
  | .scope c => hasReg n c
  | .cond _ a b => hasReg n a || hasReg n b
  | _ => false
def restAt (n : Nat) : Code → Code
  | .seq a b => if hasReg n a then .seq a b else restAt n b
  | .scope c => restAt n c
  | c => c
noncomputable def restOf (f : Func) (n : Nat) : Code := restAt n (f.body.getD .skip)
end Go.Proofs.YtalcinepeofmcaaGreat
