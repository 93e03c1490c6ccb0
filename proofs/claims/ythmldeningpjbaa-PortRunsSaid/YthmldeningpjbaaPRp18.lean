import Derived.Test.YthmldeningpjbaaPRp17
import Derived.Test.YthmldeningpjbaaPRp5
import Derived.Test.YthmldeningpjbaaPRp16
import Derived.Test.YthmldeningpjbaaPRp14
import Derived.Test.YthmldeningpjbaaPRp2
import Derived.Test.YthmldeningpjbaaPRp8
import Derived.Test.YthmldeningpjbaaPRp15
import Derived.Test.YthmldeningpjbaaPRp9
import Derived.Test.YthmldeningpjbaaPRp4
import Derived.Deep.DeepCutAuto
set_option linter.unusedVariables false
set_option linter.unusedSimpArgs false
set_option maxRecDepth 100000
set_option maxHeartbeats 40000000
namespace Go.Proofs.Ythmldeningpjbaa
open Go Go.RowKit Sp Pt
theorem callE_1 {p : Prt} {h : Int} {c : Cal} {f : Int} (h1 : within c.berth 0 ((p.bts.length : Int) - 1) = false ∨ within c.most 0 1000000 = false ∨ within c.tugs 0 20 = false) : callE p h c f = 1 := by
  unfold callE; rw [if_pos]; rcases h1 with h | h | h <;> simp [h]
theorem callE_2 {p : Prt} {h : Int} {c : Cal} {f : Int} (h1 : within c.berth 0 ((p.bts.length : Int) - 1) = true) (h2 : within c.most 0 1000000 = true) (h3 : within c.tugs 0 20 = true) (h4 : within c.draught 10 (bt p c.berth).depth = false) : callE p h c f = 100 := by
  unfold callE; rw [if_neg (by simp [h1, h2, h3]), if_pos h4]
theorem callE_3 {p : Prt} {h : Int} {c : Cal} {f : Int} (h1 : within c.berth 0 ((p.bts.length : Int) - 1) = true) (h2 : within c.most 0 1000000 = true) (h3 : within c.tugs 0 20 = true) (h4 : within c.draught 10 (bt p c.berth).depth = true) (h5 : within c.hour 0 (h - 1) = false) : callE p h c f = 12 := by
  unfold callE; rw [if_neg (by simp [h1, h2, h3]), if_neg (by simp [h4]), if_pos h5]
theorem callE_4 {p : Prt} {h : Int} {c : Cal} {f : Int} (h1 : within c.berth 0 ((p.bts.length : Int) - 1) = true) (h2 : within c.most 0 1000000 = true) (h3 : within c.tugs 0 20 = true) (h4 : within c.draught 10 (bt p c.berth).depth = true) (h5 : within c.hour 0 (h - 1) = true) : callE p h c f = if c.hour < f then 11 else 0 := by
  unfold callE; rw [if_neg (by simp [h1, h2, h3]), if_neg (by simp [h4]), if_neg (by simp [h5])]
def hrB (l : Pln) : Nat → Int
  | 0 => 0
  | k + 1 => (l.calls.getD k default).hour
theorem rplX2 {M lb cs : Nat} {As : Option Addr} {s0 s1 s2 s4 s5 s6 s7 s9 s10 s11 s12 s13 s14 s15 s16 s17 s18 s19 s20 s21 s22 s23 s24 s25 s26 s27 s28 s29 s30 s31 s32 s33 s34 s35 s36 s37 s38 s39 s40 s41 s42 s43 s44 s45 s46 s47 s48 s49 s50 s51 s52 s53 s54 s55 s56 s57 s58 s59 s60 s61 s62 s63 s64 s65 s66 s67 s68 s69 s70 s71 s72 s73 s74 s75 s76 s77 s78 s79 s80 s81 s82 s83 s84 s85 s86 s87 s88 s89 s90 s91 s92 s93 s94 s95 s96 s97 s98 s99 s100 s101 s102 s103 s104 s105 s106 s107 s108 s109 s110 s111 s112 s113 s114 s115 s116 s117 s118 s119 s120 s121 s122 s123 s124 s125 s126 s127 s128 s129 s130 s131 s132 s133 s134 s135 s136 s137 s138 s139 s140 s141 s142 s143 s144 s145 s146 s147 s148 s149 s150 s151 s152 s153 s154 s155 s156 s157 s158 s159 s160 s161 s162 s163 s164 s165 s166 s167 s168 s169 s170 s171 s172 s173 s174 s175 s176 s177 s178 s179 s180 s181 s182 s183 s184 s185 s186 s187 s188 s189 s190 s191 s192 s193 s194 s195 s196 s197 s198 s199 s200 s201 s202 s203 s204 s205 s206 s207 s208 s209 s210 s211 s212 s213 s214 s215 s216 s217 s218 s219 s220 s221 s222 s223 s224 s225 s226 s227 : Value} {Q0 : Exit → Act → World → Prop} {Inv : Act → World → Prop} {w : World} (hc : w.cell? ⟨lb, 2, none⟩ = some (.slice As M cs)) (hz : lb < w.heap.size)
    (hQ : Q0 (.exit 2) ⟨#[s0, s1, s2, .pointer (some ⟨lb, 0, none⟩), s4, s5, s6, s7, .int .i64 M, s9, s10, s11, s12, s13, s14, s15, s16, s17, s18, s19, s20, s21, s22, s23, s24, s25, s26, s27, s28, s29, s30, s31, s32, s33, s34, s35, s36, s37, s38, s39, s40, s41, s42, s43, s44, s45, s46, s47, s48, s49, s50, s51, s52, s53, s54, s55, s56, s57, s58, s59, s60, s61, s62, s63, s64, s65, s66, s67, s68, s69, s70, s71, s72, s73, s74, s75, s76, s77, s78, s79, s80, s81, s82, s83, s84, s85, s86, s87, s88, s89, s90, s91, s92, s93, s94, s95, s96, s97, s98, s99, s100, s101, s102, s103, s104, .int .i64 M, .pointer (some ⟨lb, 2, none⟩), .slice As M cs, .int .i64 M, .bool false, s110, s111, s112, s113, s114, s115, s116, s117, s118, s119, s120, s121, s122, s123, s124, s125, s126, s127, s128, s129, s130, s131, s132, s133, s134, s135, s136, s137, s138, s139, s140, s141, s142, s143, s144, s145, s146, s147, s148, s149, s150, s151, s152, s153, s154, s155, s156, s157, s158, s159, s160, s161, s162, s163, s164, s165, s166, s167, s168, s169, s170, s171, s172, s173, s174, s175, s176, s177, s178, s179, s180, s181, s182, s183, s184, s185, s186, s187, s188, s189, s190, s191, s192, s193, s194, s195, s196, s197, s198, s199, s200, s201, s202, s203, s204, s205, s206, s207, s208, s209, s210, s211, s212, s213, s214, s215, s216, s217, s218, s219, s220, s221, s222, s223, s224, s225, s226, s227], []⟩ w) :
    Code.wp Try.prog (loopBody Try.f53 1) (Exit.then Inv Q0) ⟨#[s0, s1, s2, .pointer (some ⟨lb, 0, none⟩), s4, s5, s6, s7, .int .i64 M, s9, s10, s11, s12, s13, s14, s15, s16, s17, s18, s19, s20, s21, s22, s23, s24, s25, s26, s27, s28, s29, s30, s31, s32, s33, s34, s35, s36, s37, s38, s39, s40, s41, s42, s43, s44, s45, s46, s47, s48, s49, s50, s51, s52, s53, s54, s55, s56, s57, s58, s59, s60, s61, s62, s63, s64, s65, s66, s67, s68, s69, s70, s71, s72, s73, s74, s75, s76, s77, s78, s79, s80, s81, s82, s83, s84, s85, s86, s87, s88, s89, s90, s91, s92, s93, s94, s95, s96, s97, s98, s99, s100, s101, s102, s103, s104, s105, s106, s107, s108, s109, s110, s111, s112, s113, s114, s115, s116, s117, s118, s119, s120, s121, s122, s123, s124, s125, s126, s127, s128, s129, s130, s131, s132, s133, s134, s135, s136, s137, s138, s139, s140, s141, s142, s143, s144, s145, s146, s147, s148, s149, s150, s151, s152, s153, s154, s155, s156, s157, s158, s159, s160, s161, s162, s163, s164, s165, s166, s167, s168, s169, s170, s171, s172, s173, s174, s175, s176, s177, s178, s179, s180, s181, s182, s183, s184, s185, s186, s187, s188, s189, s190, s191, s192, s193, s194, s195, s196, s197, s198, s199, s200, s201, s202, s203, s204, s205, s206, s207, s208, s209, s210, s211, s212, s213, s214, s215, s216, s217, s218, s219, s220, s221, s222, s223, s224, s225, s226, s227], []⟩ w := by
  conv => arg 2; whnf
  have HQ := Lib.hid hQ;clear hQ;go_wp2_with fail
  exact HQ.out
theorem rCheckPlan_any (D : Nat) (Ac : Option Addr) (cc : Nat) (Ab : Option Addr) (cb : Nat) (p : Prt) (Al : Option Addr) (cl : Nat) (As : Option Addr) (cs : Nat) (l : Pln) (w : World) (PB : PrtB D w Ac cc Ab cb p) (LB : PlnB D w Al cl As cs l) (hD : D ≤ w.heap.size) :
    Calls Try.prog 53 #[.agg (prtV Ac cc Ab cb p), .agg (plnV Al cl As cs l)] w fun e w' => e = .returned (.int .i64 (checkL p l)) ∧ Below w.heap.size w w' := by
  obtain ⟨W, hW⟩ : ∃ W, W = (w.alloc (.cells (prtV Ac cc Ab cb p) 79)).alloc (.cells (plnV Al cl As cs l) 85) := ⟨_, rfl⟩;obtain ⟨pb, hpb⟩ : ∃ pb, pb = w.heap.size := ⟨_, rfl⟩;obtain ⟨lb, hlb⟩ : ∃ lb, lb = w.heap.size + 1 := ⟨_, rfl⟩;have B0 : BxT 79 85 w W pb lb D Ac cc Ab cb p Al cl As cs l := by
    have b0 : Below w.heap.size w W := by rw [hW]; exact ((Below.refl _ _).alloc (Nat.le_refl _) _).alloc (by simp) _
    refine ⟨b0, by rw [hW, hpb]; exact hA_ (heap_alloc_new _ _) _, ?_, PB.below (b0.mono hD), LB.below (b0.mono hD), by have := b0.size; omega⟩;rw [hW, hlb];have := heap_alloc_new (w.alloc (.cells (prtV Ac cc Ab cb p) 79)) (.cells (plnV Al cl As cs l) 85)
    rwa [World.size_alloc] at this
  obtain ⟨er, her⟩ : ∃ er, er = checkP p := ⟨_, rfl⟩;have hck : ∀ X, BxT 79 85 w X pb lb D Ac cc Ab cb p Al cl As cs l → Calls Try.prog 51 #[.agg (prtV Ac cc Ab cb p)] X fun e w' => e = .returned (.int .i64 er) ∧ Below X.heap.size X w' := fun X h => by rw [her]; exact rCheck_any D Ac cc Ab cb p X h.PB h.hD
  have hcl1 := LB.c1;have hcl2 := LB.c2;have hcb2 := PB.c2;have HB := Lib.hid B0;have HC := Lib.hid (And.intro her hck);clear PB LB her hck;obtain ⟨c0, c1, c2, zp, c3, c4, c5, zl⟩ := B0.cells;clear B0
  go_enter Try.func53, Try.ntmps53
  go_upto_region 1 with fail
  rw [← hW, ← hlb, ← hpb];clear hW hlb hpb;by_cases h0 : er = 0
  · have h00 : checkP p = 0 := HC.out.1.symm.trans h0;subst h0;have hh0 : Hid (checkP p = 0) := Lib.hid h00;clear h00;have hpl2 : pb < W.heap.size ∧ lb < W.heap.size := ⟨zp, zl⟩;go_upto_region 4 with (go_at_call 51; refine (HC.out.2 W HB.out).mono ?_; rintro e w1 ⟨rfl, b1⟩; have H1 := Lib.hid (HB.out.below b1); clear c0 c1 c2 c3 c4 c5 zp zl b1)
    clear hpl2;have H1c := H1.out.cells;obtain ⟨c0, c1, c2, zp, c3, c4, c5, zl⟩ := H1c;by_cases hmany : 60 < l.calls.length ∨ 200 < l.swps.length
    · have hc := checkL_2 hh0.out hmany;have HCL := Lib.hid hc;clear hc;by_cases h60 : 60 < l.calls.length
      · have q1 : decide ((60 : Int) < (l.calls.length : Int)) = true := by simp; omega
        have q2 : decide (60 < l.calls.length) = true := by simp; omega
        go_wp2_with fail
        go_ret;exact ⟨by rw [HCL.out]; rfl, H1.out.bel⟩
      · have q1 : decide ((60 : Int) < (l.calls.length : Int)) = false := by simp; omega
        have q2 : decide (60 < l.calls.length) = false := by simp; omega
        have q3 : decide ((200 : Int) < (l.swps.length : Int)) = true := by simp; omega
        have q4 : decide (200 < l.swps.length) = true := by simp; omega
        go_wp2_with fail
        go_ret;exact ⟨by rw [HCL.out]; rfl, H1.out.bel⟩
    · have q1 : decide ((60 : Int) < (l.calls.length : Int)) = false := by simp; omega
      have q2 : decide (60 < l.calls.length) = false := by simp; omega
      have q3 : decide ((200 : Int) < (l.swps.length : Int)) = false := by simp; omega
      have q4 : decide (200 < l.swps.length) = false := by simp; omega
      have hlen : l.calls.length ≤ 60 ∧ l.swps.length ≤ 200 := by omega
      have HM := Lib.hid hmany;clear hmany;cases hw : within l.hours 1 100
      · have hc := checkL_3 hh0.out HM.out hw;have HCL := Lib.hid hc;clear hc;go_wp2_with (go_at_call 102; refine (rin9_any _ _ _ _).mono ?_; rintro e w' ⟨rfl, rfl⟩)
        go_ret;exact ⟨by rw [HCL.out]; rfl, H1.out.bel⟩
      · have hhr : 1 ≤ l.hours ∧ l.hours ≤ 100 := Pt.within_iff.1 hw;obtain ⟨H, hH⟩ := Int.eq_ofNat_of_zero_le (show 0 ≤ l.hours by omega);have HW := Lib.hid (And.intro hw hH);clear hH;obtain ⟨L, hL⟩ : ∃ L, L = l.calls.length := ⟨_, rfl⟩;rw [← hL] at c4 q1 q2 hcl1;have hL60 : L ≤ 60 := by omega
        have HLL := Lib.hid hL;clear hL;have hpv := checkP_ok hh0.out;have hnb := hpv.nb;clear hpv;obtain ⟨bb0, ob0, hAb, hbb0, hcb0⟩ : ∃ b off, Ab = some ⟨b, off, none⟩ ∧ b < D ∧ ∀ k (hk : k < p.bts.length), w1.cell? ⟨b, off + k * 2, none⟩ = some (.int .i64 p.bts[k].depth) := by
          obtain ⟨b, off, _, _, e, hb, _⟩ := H1.out.PB.bts 0 (by omega);refine ⟨b, off, e, hb, fun k hk => ?_⟩;obtain ⟨b', off', _, _, e', _, h1, _⟩ := H1.out.PB.bts k hk;rw [e] at e';injection e' with e'
          injection e' with e1 e2 _
          subst e1 e2;exact h1
        have HCB := Lib.hid (And.intro hbb0 hcb0);clear hbb0 hcb0;subst hAb;go_wp2_with (go_at_call 102; refine (rin9_any _ _ _ _).mono ?_; rintro e w' ⟨rfl, rfl⟩)
        go_loopg [6] (L) (fun g i wr => ∃ (k : Nat), g + k = L ∧ i = .int .i64 k ∧ callsE p l.hours 0 l.calls = callsE p l.hours (hrB l k) (l.calls.drop k) ∧ Below w1.heap.size w1 wr)
        case atStart => exact ⟨0, rfl, rfl, rfl, Below.refl _ _⟩
        case round =>
          obtain ⟨k, hk, rfl, hE, hB⟩ := hrel;have Bw := H1.out.below hB;obtain ⟨e0, e1, e2, zp2, e3, e4, e5, zl2⟩ := Bw.cells;rw [← HLL.out] at e4;by_cases hlt : k < L
          · have hkl : k < l.calls.length := by rw [← HLL.out]; exact hlt
            obtain ⟨b, off, hAl, hbD, hcell⟩ := Bw.LB.calls.2 (by omega);obtain ⟨g0, g1, g2, g3, g4, g5⟩ := cacs_get hkl;obtain ⟨x, hx⟩ : ∃ x, x = l.calls[k] := ⟨_, rfl⟩;rw [← hx] at g0 g1 g2 g3 g4 g5;have d0 := hcell _ _ g0;have d1 : wr.cell? ⟨b, off + k * 6 + 1, none⟩ = _ := hcell _ _ g1;have d2 : wr.cell? ⟨b, off + k * 6 + 2, none⟩ = _ := hcell _ _ g2;have d3 : wr.cell? ⟨b, off + k * 6 + 3, none⟩ = _ := hcell _ _ g3;have d4 : wr.cell? ⟨b, off + k * 6 + 4, none⟩ = _ := hcell _ _ g4;have d5 : wr.cell? ⟨b, off + k * 6 + 5, none⟩ = _ := hcell _ _ g5;have hbl := World.block_lt_of_cell? _ _ d0;have hS : callsE p l.hours (hrB l k) (l.calls.drop k) = if callE p l.hours x (hrB l k) ≠ 0 then callE p l.hours x (hrB l k) else callsE p l.hours x.hour (l.calls.drop (k + 1)) := by rw [drop_cons' hkl, ← hx, callsE]
            have hnx : hrB l (k + 1) = x.hour := by rw [hrB, hx, List.getD_eq_getElem?_getD, List.getElem?_eq_getElem hkl]; rfl
            obtain ⟨fv, hfv⟩ : ∃ fv, fv = hrB l k := ⟨_, rfl⟩;rw [← hfv] at hS hE;have bad : ∀ e : Int, callE p l.hours x fv = e → e ≠ 0 → checkL p l = e := fun e he h0 => checkL_4 hh0.out HM.out HW.out.1 (hE.trans (hS.trans (by rw [he]; exact if_pos h0))) h0;have bb : Below w.heap.size w wr := H1.out.bel.trans (hB.mono H1.out.bel.size);have n2 : (k : Int) < (L : Int) := by omega
            have nb0 : bb0 < wr.heap.size := by have := HCB.out.1; have := Bw.hD; omega
            have HS := Lib.hid (And.intro hE (And.intro hS (And.intro bad (And.intro hnx (And.intro hB (And.intro bb hfv))))));have hprev : ∀ j, k = j + 1 → wr.cell? ⟨b, off + j * 6, none⟩ = some (.int .i64 fv) := by
              intro j hj;subst hj;have hjl : j < l.calls.length := by omega
              have h := hcell _ _ (cacs_get hjl).1;rw [h, hfv, hrB, List.getD_eq_getElem?_getD, List.getElem?_eq_getElem hjl]; rfl
            have HPV := Lib.hid hprev;subst hAl;clear hE hS bad hnx hB bb hfv hx hcell g0 g1 g2 g3 g4 g5 hprev Bw c0 c1 c2 zp c3 c4 c5 zl hkl q1 q2;obtain ⟨ho, be, ou, dr, mo, tg⟩ := x;simp only at d0 d1 d2 d3 d4 d5;cases k1 : within be 0 ((p.bts.length : Int) - 1)
            · have HF := Lib.hid (HS.out.2.2.1 1 (callE_1 (.inl k1)) (by decide));go_wp2_with (go_at_call 102; refine (rin9_any _ _ _ _).mono ?_; rintro e w' ⟨rfl, rfl⟩)
              go_ret;exact ⟨by rw [HF.out]; rfl, HS.out.2.2.2.2.2.1.alloc HS.out.2.2.2.2.2.1.size _⟩
            cases k2 : within mo 0 1000000
            · have HF := Lib.hid (HS.out.2.2.1 1 (callE_1 (.inr (.inl k2))) (by decide));go_wp2_with (go_at_call 102; refine (rin9_any _ _ _ _).mono ?_; rintro e w' ⟨rfl, rfl⟩)
              go_ret;exact ⟨by rw [HF.out]; rfl, HS.out.2.2.2.2.2.1.alloc HS.out.2.2.2.2.2.1.size _⟩
            cases k3 : within tg 0 20
            · have HF := Lib.hid (HS.out.2.2.1 1 (callE_1 (.inr (.inr k3))) (by decide));go_wp2_with (go_at_call 102; refine (rin9_any _ _ _ _).mono ?_; rintro e w' ⟨rfl, rfl⟩)
              go_ret;exact ⟨by rw [HF.out]; rfl, HS.out.2.2.2.2.2.1.alloc HS.out.2.2.2.2.2.1.size _⟩
            have hbe : 0 ≤ be ∧ be < (p.bts.length : Int) := by have := Pt.within_iff.1 k1; omega
            obtain ⟨bn, rfl⟩ := Int.eq_ofNat_of_zero_le hbe.1;have hbn : bn < p.bts.length := by omega
            have hdep : wr.cell? ⟨bb0, ob0 + bn * 2, none⟩ = some (.int .i64 (bt p (bn : Int)).depth) := by
              have h := HCB.out.2 bn hbn;have e : bt p (bn : Int) = p.bts[bn] := by unfold bt; rw [Int.toNat_natCast, List.getD_eq_getElem?_getD, List.getElem?_eq_getElem hbn]; rfl
              rw [e];exact (HS.out.2.2.2.2.1.cell (p := ⟨bb0, ob0 + bn * 2, none⟩) (show bb0 < w1.heap.size by have := HCB.out.1; have := H1.out.hD; omega)).trans h
            obtain ⟨dp, hdp⟩ : ∃ dp, dp = (bt p (bn : Int)).depth := ⟨_, rfl⟩;rw [← hdp] at hdep;have HDP := Lib.hid (And.intro hdp (And.intro k1 (And.intro k2 k3)));have hbI : (bn : Int) < (p.bts.length : Int) := by omega
            clear hdp;by_cases k4 : dr < 10
            · have q4 : decide (dr < 10) = true := by simpa using k4
              have HF := Lib.hid (HS.out.2.2.1 100 (callE_2 HDP.out.2.1 HDP.out.2.2.1 HDP.out.2.2.2 (by simp [within]; omega)) (by decide));go_upto_region 14 with (go_at_call 102; refine (rin9_any _ _ _ _).mono ?_; rintro e w' ⟨rfl, rfl⟩)
              go_quiet (fail);go_wp2_with (go_at_call 102; refine (rin9_any _ _ _ _).mono ?_; rintro e w' ⟨rfl, rfl⟩)
              go_ret;exact ⟨by rw [HF.out]; rfl, by first | exact bKD (HS.out.2.2.2.2.2.1.alloc HS.out.2.2.2.2.2.1.size _) _ | exact bKD (bKD (HS.out.2.2.2.2.2.1.alloc HS.out.2.2.2.2.2.1.size _) _) _⟩
            · have q4 : decide (dr < 10) = false := by simpa using k4
              have hbI0 : (0 : Int) ≤ (bn : Int) := by omega
              go_upto_region 14 with (go_at_call 102; refine (rin9_any _ _ _ _).mono ?_; rintro e w' ⟨rfl, rfl⟩)
              go_quiet (fail);by_cases k5 : dp < dr
              · have HF := Lib.hid (HS.out.2.2.1 100 (callE_2 HDP.out.2.1 HDP.out.2.2.1 HDP.out.2.2.2 (by rw [← HDP.out.1]; simp [within]; omega)) (by decide));go_wp2_with (go_at_call 102; refine (rin9_any _ _ _ _).mono ?_; rintro e w' ⟨rfl, rfl⟩)
                go_ret;exact ⟨by rw [HF.out]; rfl, by first | exact bKD (HS.out.2.2.2.2.2.1.alloc HS.out.2.2.2.2.2.1.size _) _ | exact bKD (bKD (HS.out.2.2.2.2.2.1.alloc HS.out.2.2.2.2.2.1.size _) _) _⟩
              · have k45 : within dr 10 (bt p (bn : Int)).depth = true := by rw [← HDP.out.1]; simp [within]; omega
                have HK45 := Lib.hid k45;clear k45;cases k6 : within ho 0 (l.hours - 1)
                · have HF := Lib.hid (HS.out.2.2.1 12 (callE_3 HDP.out.2.1 HDP.out.2.2.1 HDP.out.2.2.2 HK45.out k6) (by decide));go_wp2_with (go_at_call 102; refine (rin9_any _ _ _ _).mono ?_; rintro e w' ⟨rfl, rfl⟩)
                  go_ret;exact ⟨by rw [HF.out]; rfl, by first | exact bKD (HS.out.2.2.2.2.2.1.alloc HS.out.2.2.2.2.2.1.size _) _ | exact bKD (bKD (HS.out.2.2.2.2.2.1.alloc HS.out.2.2.2.2.2.1.size _) _) _⟩
                · have hcE := callE_4 (c := ⟨ho, (bn : Int), ou, dr, mo, tg⟩) (f := fv) HDP.out.2.1 HDP.out.2.2.1 HDP.out.2.2.2 HK45.out k6;have HCE := Lib.hid hcE;have hho := Pt.within_iff.1 k6;clear hcE;cases k with
                  | zero =>
                    have hf0 : fv = 0 := HS.out.2.2.2.2.2.2;have HG : Hid (callsE p l.hours 0 l.calls = callsE p l.hours (hrB l (0 + 1)) (l.calls.drop (0 + 1))) := Lib.hid (by
                      obtain ⟨hE, hS, _, hnx, _⟩ := HS.out;rw [hE, hS, HCE.out, hnx, if_neg (show ¬ (ho < fv) by omega)]; simp)
                    have q7 : decide ((0 : Int) < ((0 : Nat) : Int)) = false := by decide
                    go_upto_region 18 with (go_at_call 102; refine (rin9_any _ _ _ _).mono ?_; rintro e w' ⟨rfl, rfl⟩)
                    go_quiet (fail);go_wp2_with fail
                    go_roundg (gk - 1);case measure => omega
                    case rel => exact ⟨0 + 1, by omega, by go_num, HG.out, bKD (HS.out.2.2.2.2.1.alloc HS.out.2.2.2.2.1.size _) _⟩
                  | succ j =>
                    have pv := HPV.out j rfl;have q7 : decide ((0 : Int) < ((j + 1 : Nat) : Int)) = true := decide_eq_true (by omega);have q8 : decide (0 < j + 1) = true := by simp
                    have ew : IntKind.i64.wrap (((j + 1 : Nat) : Int) - 1) = (j : Int) := by rw [IntWalk.i64_in _ (by omega)]; omega
                    have q9 : (j : Int) < (L : Int) := by omega
                    have q10 : (0 : Int) ≤ (j : Int) := by omega
                    go_upto_region 18 with (go_at_call 102; refine (rin9_any _ _ _ _).mono ?_; rintro e w' ⟨rfl, rfl⟩)
                    go_quiet (fail);by_cases k7 : ho < fv
                    · have HF := Lib.hid (HS.out.2.2.1 11 (by rw [HCE.out, if_pos k7]) (by decide));go_wp2_with fail
                      go_ret;exact ⟨by rw [HF.out]; rfl, by first | exact bKD (HS.out.2.2.2.2.2.1.alloc HS.out.2.2.2.2.2.1.size _) _ | exact bKD (bKD (HS.out.2.2.2.2.2.1.alloc HS.out.2.2.2.2.2.1.size _) _) _⟩
                    · have HG : Hid (callsE p l.hours 0 l.calls = callsE p l.hours (hrB l (j + 1 + 1)) (l.calls.drop (j + 1 + 1))) := Lib.hid (by
                        obtain ⟨hE, hS, _, hnx, _⟩ := HS.out;rw [hE, hS, HCE.out, hnx, if_neg k7]; simp)
                      go_wp2_with fail
                      go_roundg (gk - 1);case measure => omega
                      case rel => exact ⟨j + 1 + 1, by omega, by go_num, HG.out, bKD (HS.out.2.2.2.2.1.alloc HS.out.2.2.2.2.1.size _) _⟩
          · obtain rfl : k = L := by omega
            have hE0 : callsE p l.hours 0 l.calls = 0 := by rw [hE, HLL.out, List.drop_length]; rfl
            have H3 := Lib.hid (And.intro hE0 Bw);obtain ⟨w3, rfl⟩ : ∃ w3, w3 = wr := ⟨_, rfl⟩;obtain ⟨M, hM⟩ : ∃ M, M = l.swps.length := ⟨_, rfl⟩;have hM200 : M ≤ 200 := by omega
            obtain ⟨g1, rfl⟩ : ∃ g1, g1 = gk := ⟨_, rfl⟩;clear hE hB hE0 c0 c1 c2 zp c3 c4 c5 zl Bw q1 q2;rw [← hM] at e5 hcl2;have HMM := Lib.hid hM;have hnc := (checkP_ok hh0.out).nc;clear hM;go_wp2_with fail
            clear e0 e1 e2 zp2 e3 e4 e5 zl2
            go_loopg [8] (M) (fun g i wr => ∃ k : Nat, g + k = M ∧ i = .int .i64 k ∧ swpsE p l.hours l.swps = swpsE p l.hours (l.swps.drop k) ∧ Below w3.heap.size w3 wr)
            case atStart => exact ⟨0, rfl, rfl, rfl, Below.refl _ _⟩
            case round =>
              obtain ⟨k, hk, rfl, hE, hB⟩ := hrel;have Bq := H3.out.2.below hB;obtain ⟨e0, e1, e2, zp2, e3, e4, e5, zl2⟩ := Bq.cells;rw [← HMM.out] at e5;by_cases hlt : k < M
              · have hkl : k < l.swps.length := by rw [← HMM.out]; exact hlt
                obtain ⟨b, off, hAl, hbD, hcell⟩ := Bq.LB.swps.2 (by omega);obtain ⟨g0, g1, g2⟩ := swcs_get hkl;obtain ⟨x, hx⟩ : ∃ x, x = l.swps[k] := ⟨_, rfl⟩;rw [← hx] at g0 g1 g2;have d0 := hcell _ _ g0;have d1 : wr.cell? ⟨b, off + k * 3 + 1, none⟩ = _ := hcell _ _ g1;have d2 : wr.cell? ⟨b, off + k * 3 + 2, none⟩ = _ := hcell _ _ g2;have hbl := World.block_lt_of_cell? _ _ d0;have hS : swpsE p l.hours (l.swps.drop k) = if swpE p l.hours x ≠ 0 then swpE p l.hours x else swpsE p l.hours (l.swps.drop (k + 1)) := by rw [drop_cons' hkl, ← hx, swpsE]
                have n2 : (k : Int) < (M : Int) := by omega
                have HS := Lib.hid (And.intro (hE.trans hS) (And.intro hB Bq));clear hE hB hS g0 g1 g2 hcell hx Bq hkl;subst hAl;obtain ⟨ho, cn, tg⟩ := x;cases k1 : within cn 0 ((p.chs.length : Int) - 1)
                · have he : swpE p l.hours ⟨ho, cn, tg⟩ = 1 := by unfold swpE; rw [k1]; rfl
                  have hfin : checkL p l = 1 := checkL_5 hh0.out HM.out HW.out.1 H3.out.1 (HS.out.1.trans (by rw [he]; rfl)) (by decide);have HF := Lib.hid hfin;clear hfin he;go_wp2_with (go_at_call 102; refine (rin9_any _ _ _ _).mono ?_; rintro e w' ⟨rfl, rfl⟩)
                  go_ret;exact ⟨by rw [HF.out]; rfl, HS.out.2.2.bel.alloc HS.out.2.2.bel.size _⟩
                cases k2 : within tg 1 20
                · have he : swpE p l.hours ⟨ho, cn, tg⟩ = 1 := by unfold swpE; rw [k1, k2]; rfl
                  have hfin : checkL p l = 1 := checkL_5 hh0.out HM.out HW.out.1 H3.out.1 (HS.out.1.trans (by rw [he]; rfl)) (by decide);have HF := Lib.hid hfin;clear hfin he;go_wp2_with (go_at_call 102; refine (rin9_any _ _ _ _).mono ?_; rintro e w' ⟨rfl, rfl⟩)
                  go_ret;exact ⟨by rw [HF.out]; rfl, HS.out.2.2.bel.alloc HS.out.2.2.bel.size _⟩
                cases k3 : within ho 0 (l.hours - 1)
                · have he : swpE p l.hours ⟨ho, cn, tg⟩ = 12 := by unfold swpE; rw [k1, k2, k3]; rfl
                  have hfin : checkL p l = 12 := checkL_5 hh0.out HM.out HW.out.1 H3.out.1 (HS.out.1.trans (by rw [he]; rfl)) (by decide);have HF := Lib.hid hfin;clear hfin he;go_wp2_with (go_at_call 102; refine (rin9_any _ _ _ _).mono ?_; rintro e w' ⟨rfl, rfl⟩)
                  go_ret;exact ⟨by rw [HF.out]; rfl, HS.out.2.2.bel.alloc HS.out.2.2.bel.size _⟩
                · have he : swpE p l.hours ⟨ho, cn, tg⟩ = 0 := by unfold swpE; rw [k1, k2, k3]; rfl
                  have hnx := HS.out.1;rw [he] at hnx;have HF := Lib.hid hnx;clear hnx he;go_wp2_with (go_at_call 102; refine (rin9_any _ _ _ _).mono ?_; rintro e w' ⟨rfl, rfl⟩)
                  go_roundg (gk - 1);case measure => omega
                  case rel => exact ⟨k + 1, by omega, by go_num, HF.out, HS.out.2.1.alloc HS.out.2.1.size _⟩
              · obtain rfl : k = M := by omega
                have hE0 : swpsE p l.hours l.swps = 0 := by rw [hE, HMM.out, List.drop_length]; rfl
                have hhH : l.hours.toNat = H := by have := HW.out.2; omega
                have hfin : checkL p l = rFin p l 0 H := by
                  rw [check_ref, if_neg (by rw [hh0.out]; simp), if_neg HM.out, if_neg (by rw [HW.out.1]; simp), if_neg (by rw [H3.out.1]; simp), if_neg (by rw [hE0]; simp), hhH]
                have H4 := Lib.hid (And.intro hE0 (And.intro Bq hfin));have hca := (callsE_ok H3.out.1).1;have hsw := swpsE_ok hE0;have pv := checkP_ok hh0.out;have HCA := Lib.hid (And.intro hca (And.intro hsw pv));clear hE hB hE0 Bq hfin hca hsw pv;refine rplX2 e5 zl2 ?_;simp only [Exit.inBlock, Exit.then, if_true]
                apply_assumption
                refine rplTail (w := w) H4.out.2.1 HCA.out.2.2 HW.out.2 (by have := HW.out.2; omega) hlen (fun c hc => ?_) (fun s hs => by have := HCA.out.2.1 s hs; omega) ?_
                · have h := HCA.out.1 c hc;refine ⟨h.1, h.2.1, h.2.2.2.2.1, h.2.2.2.2.2.1, ?_⟩;have hb := HCA.out.2.2.btf _ (bt_mem h.1 h.2.1);have := nodup_range_le hb.2.2.2.1 hb.2.2.2.2;have := HCA.out.2.2.nc;omega
                intro _ _ _ h;show bodyPost Try.prog Try.f53 (fun e w' => e = .returned (.int .i64 (checkL p l)) ∧ Below w.heap.size w w') _ _ _;rw [H4.out.2.2]; exact h
  · have hne : (er != 0) = true := by simp [h0]
    have hc := checkL_1 (l := l) HC.out.1.symm h0;have HCL := Lib.hid hc;clear hc h0;go_wp2_with (go_at_call 51; refine (HC.out.2 W HB.out).mono ?_; rintro e w1 ⟨rfl, b1⟩)
    go_ret;exact ⟨by rw [HCL.out]; rfl, HB.out.bel.trans (b1.mono HB.out.bel.size)⟩
end Go.Proofs.Ythmldeningpjbaa




namespace Go.Proofs.Ythmldeningpjbaa
open Go Go.RowKit Sp Pt
def NewStO (w : World) (s : Stt) (e : Ending) (w' : World) : Prop := ∃ A c q1 B d q2, e = .returned (.agg (sttV A c B d s)) ∧ OwnS w' 3 1 A s.brash.length c (ints s.brash) q1 ∧ OwnS w' 4 1 B s.busy.length d (bools s.busy) q2 ∧ (∀ x ∈ q1, w.heap.size ≤ x) ∧ (∀ x ∈ q2, w.heap.size ≤ x) ∧ (∀ x ∈ q1, x ∉ q2) ∧ Below w.heap.size w w'
structure CoS where
  A1 : Option Addr
  c1 : Nat
  q1 : List Nat
  b1 : Nat
  A2 : Option Addr
  c2 : Nat
  q2 : List Nat
  b2 : Nat
theorem own_empty (w : World) (e : TypeId) : OwnS (w.alloc (.cells #[] e)) e 1 (some ⟨w.heap.size, 0, none⟩) 0 0 [] [w.heap.size] := ⟨by simp, .inr ⟨_, _, rfl, rfl, heap_alloc_new w _, by omega, by omega, rfl, by simp⟩⟩
def CoqV (sb n m cr cu : Nat) (Ar Au : Option Addr) (s : CoS) : Nat → Value → Prop
  | 0, v => v = .slice (some ⟨s.b1, 0, none⟩) 0 0
  | 1, v => v = .pointer (some ⟨sb, 0, none⟩)
  | 2, v => v = .slice Ar n cr
  | 3, v => v = .slice s.A1 n s.c1
  | 4, v => v = .slice (some ⟨s.b2, 0, none⟩) 0 0
  | 5, v => v = .pointer (some ⟨sb, 1, none⟩)
  | 6, v => v = .slice Au m cu
  | 7, v => v = .slice s.A2 m s.c2
  | 8, v => v = .agg #[.slice s.A1 n s.c1, .slice s.A2 m s.c2]
  | _, _ => True
theorem copied_any (D : Nat) (Ar : Option Addr) (cr : Nat) (Au : Option Addr) (cu : Nat) (s : Stt) (w : World) (SB : SttB D w Ar cr Au cu s) (hD : D ≤ w.heap.size) (hl : s.brash.length ≤ 1000 ∧ s.busy.length ≤ 1000) :
    Calls Try.prog 127 #[.agg (sttV Ar cr Au cu s)] w (NewStO w s) := by
  obtain ⟨hI0, hI1, hI2, hI3, hI4⟩ := info_parts info_intP;obtain ⟨hB0, hB1, hB2, hB3, hB4⟩ := info_parts info_boolP;obtain ⟨sb, hsb⟩ : ∃ b, b = w.heap.size := ⟨_, rfl⟩;obtain ⟨rb, hrb⟩ : ∃ b, b = w.heap.size + 1 := ⟨_, rfl⟩;obtain ⟨W, hW⟩ : ∃ W, W = (w.alloc (.cells (sttV Ar cr Au cu s) 81)).alloc (.cells #[.slice none 0 0, .slice none 0 0] 81) := ⟨_, rfl⟩;have O0 : Own w.heap.size w [.blk sb (.cells (sttV Ar cr Au cu s) 81), .blk rb (.cells #[.slice none 0 0, .slice none 0 0] 81)] W := by
    have h := (((Own.start w).alloc (.cells (sttV Ar cr Au cu s) 81)).alloc (.cells #[.slice none 0 0, .slice none 0 0] 81));rw [hW, hsb, hrb];simpa using h
  obtain ⟨n, hn⟩ : ∃ n, n = s.brash.length := ⟨_, rfl⟩;obtain ⟨m, hm⟩ : ∃ n, n = s.busy.length := ⟨_, rfl⟩;obtain ⟨xs, hxs⟩ : ∃ n, n = ints s.brash := ⟨_, rfl⟩;obtain ⟨ys, hys⟩ : ∃ n, n = bools s.busy := ⟨_, rfl⟩;have r1 : ∀ wx, Below w.heap.size w wx → Rd wx 1 Ar n xs := fun wx hb => by rw [hn, hxs]; exact (SB.br.below (hb.mono hD)).rd (Nat.le_trans hD hb.size)
  have r2 : ∀ wx, Below w.heap.size w wx → Rd wx 1 Au m ys := fun wx hb => by rw [hm, hys]; exact (SB.bu.below (hb.mono hD)).rd (Nat.le_trans hD hb.size)
  have r3 : ∀ u ∈ xs, u.oneCell' = true := by rw [hxs]; intro u hu; simp [ints] at hu; obtain ⟨y, _, rfl⟩ := hu; rfl
  have r4 : ∀ u ∈ ys, u.oneCell' = true := by rw [hys]; intro u hu; simp [bools] at hu; rcases hu with ⟨_, rfl⟩ | ⟨_, rfl⟩ <;> rfl
  have HS := Lib.hid (And.intro r1 (And.intro r2 (And.intro r3 r4)));have HN := Lib.hid (And.intro hn (And.intro hm (And.intro hxs hys)));simp only [sttV] at O0 hW ⊢;rw [← hn, ← hm] at O0 hW ⊢;have hl' : n ≤ 1000 ∧ m ≤ 1000 := by omega
  have HO := Lib.hid O0;have zs := hL_ (O0.heap 0 rfl);clear r1 r2 r3 r4 hn hm hxs hys O0 SB hl
  go_enter Try.func127, Try.ntmps127
  go_upto_region 1 with fail
  rw [← hW, ← hrb, ← hsb];clear hW hrb hsb;refine wRS (σ := CoS) (by kernel_rfl) (by kernel_rfl) (fun sg jx vx _ => CoqV sb n m cr cu Ar Au sg jx vx) (fun sg ly wx => Own w.heap.size w [It.blk sb (.cells #[.slice Ar n cr, .slice Au m cu] 81), It.blk rb (.cells (if ly 9 = true then #[.slice sg.A1 n sg.c1, .slice sg.A2 m sg.c2] else #[.slice none 0 0, .slice none 0 0]) 81), if ly 0 = true then (if ly 3 = true then It.own 3 1 sg.A1 n sg.c1 xs sg.q1 else It.own 3 1 (some ⟨sg.b1, 0, none⟩) 0 0 [] [sg.b1]) else noIt, if ly 4 = true then (if ly 7 = true then It.own 4 1 sg.A2 m sg.c2 ys sg.q2 else It.own 4 1 (some ⟨sg.b2, 0, none⟩) 0 0 [] [sg.b2]) else noIt] wx) ⟨none, 0, [], 0, none, 0, [], 0⟩ ?_ ?_ ?_
  · exact HO.out.blank.blank.drew
  · simp only [AllFrom, Nat.zero_add, Nat.reduceAdd];refine ⟨?_, ?_, ?_, ?_, ?_, ?_, ?_, ?_, ?_, ?_, trivial⟩
    · refine sR_ fun sg ly act wx hl hd hW hF => ?_;have n3 := hF.notYet 0 3 hl (by kernel_rfl);have hO := hW;try dsimp only at hO
      simp only [hl, Bool.false_eq_true, if_false, if_true] at hO;refine ⟨_, wx.alloc (.cells #[] 3), { sg with b1 := wx.heap.size }, by go_simp, ?_, rfl, ?_⟩
      · have hN := hO.upd 2 rfl ((Keep.refl _ _).alloc (.cells #[] 3)) (i' := .own 3 1 (some ⟨wx.heap.size, 0, none⟩) 0 0 [] [wx.heap.size]) (own_empty wx _) (fun x hx => .inr (by rw [List.mem_singleton.1 hx]; exact Nat.le_refl _));simpa [upd, n3] using hN
      · intro i u hi h;have i0 : i ≠ 0 := by rintro rfl; rw [hl] at hi; cases hi
        have i3 : i ≠ 3 := by rintro rfl; rw [n3] at hi; cases hi
        unfold CoqV at h ⊢;split at h <;> first | exact h | exact absurd rfl i0 | exact absurd rfl i3
    · refine sP_ fun sg ly act wx hl hd hW hF => ?_;have et1 := hF.old 1 (by kernel_rfl);simp [Act.eval] at et1;exact ⟨hW, .pointer (some ⟨sb, 0, none⟩), by go_simp, rfl⟩
    · refine sP_ fun sg ly act wx hl hd hW hF => ?_;simp [Region.binds] at hd;have et4 := hF.new 1 4 (by simp [hd]) rfl;simp [CoqV, Act.eval] at et4;have hO := hW;try dsimp only at hO
      have hh := hO.heap 0 rfl;have clq0 := (cOH hh 0).trans rfl;have clq1 := (cOH hh 1).trans rfl;have zz := hL_ hh;exact ⟨hW, .slice Ar n cr, by go_simp, rfl⟩
    · intro sg ly act wx hl hd hW hF;simp [Region.binds] at hd;have et3 := hF.new 0 3 (by simp [hd]) rfl;simp [CoqV, Act.eval] at et3;have et5 := hF.new 2 5 (by simp [hd]) rfl;simp [CoqV, Act.eval] at et5;have n8 := hF.notYet 3 8 hl (by kernel_rfl);have n9 := hF.notYet 3 9 hl (by kernel_rfl);have y0 : ly 0 = true := by simp [hd]
      have hO := hW;try dsimp only at hO
      simp only [hl, n8, n9, y0, Bool.false_eq_true, if_false, if_true] at hO;refine wp_append_M (.tmp 3) (.tmp 5) 33 rfl hI0 _ 8 Try.underlying33 hI1 hI2 hI3 hI4 rfl (by simpa [Act.eval] using et3) (by simpa [Act.eval] using et5) (hO.owns 2 rfl) (HS.out.1 wx hO.bel) (HS.out.2.2.1) (by omega) (by omega) ?_;intro A' c' w' q' h1 h2 h3;rw [Nat.zero_add, List.nil_append] at h1;have hN := hO.upd 2 rfl h3 (i' := .own 3 1 A' n c' xs q') (show OwnS _ _ _ _ _ _ _ _ from h1) (fun x hx => (h2 x hx).imp id (fun e => by omega));refine ⟨{ sg with A1 := A', c1 := c', q1 := q' }, .slice A' n c', by rw [Nat.zero_add], ?_, fun _ => rfl, ?_⟩
      · simpa [upd, n8, n9, y0] using hN
      · intro i u hi h;have i3 : i ≠ 3 := by rintro rfl; rw [hl] at hi; cases hi
        have i8 : i ≠ 8 := by rintro rfl; rw [n8] at hi; cases hi
        have i9 : i ≠ 9 := by rintro rfl; rw [n9] at hi; cases hi
        unfold CoqV at h ⊢;split at h <;> first | exact h | exact absurd rfl i3 | exact absurd rfl i8 | exact absurd rfl i9
    · refine sR_ fun sg ly act wx hl hd hW hF => ?_;have n7 := hF.notYet 4 7 hl (by kernel_rfl);have hO := hW;try dsimp only at hO
      simp only [hl, Bool.false_eq_true, if_false, if_true] at hO;refine ⟨_, wx.alloc (.cells #[] 4), { sg with b2 := wx.heap.size }, by go_simp, ?_, rfl, ?_⟩
      · have hN := hO.upd 3 rfl ((Keep.refl _ _).alloc (.cells #[] 4)) (i' := .own 4 1 (some ⟨wx.heap.size, 0, none⟩) 0 0 [] [wx.heap.size]) (own_empty wx _) (fun x hx => .inr (by rw [List.mem_singleton.1 hx]; exact Nat.le_refl _));simpa [upd, n7] using hN
      · intro i u hi h;have i4 : i ≠ 4 := by rintro rfl; rw [hl] at hi; cases hi
        have i7 : i ≠ 7 := by rintro rfl; rw [n7] at hi; cases hi
        unfold CoqV at h ⊢;split at h <;> first | exact h | exact absurd rfl i4 | exact absurd rfl i7
    · refine sP_ fun sg ly act wx hl hd hW hF => ?_;have et1 := hF.old 1 (by kernel_rfl);simp [Act.eval] at et1;exact ⟨hW, .pointer (some ⟨sb, 1, none⟩), by go_simp, rfl⟩
    · refine sP_ fun sg ly act wx hl hd hW hF => ?_;simp [Region.binds] at hd;have et8 := hF.new 5 8 (by simp [hd]) rfl;simp [CoqV, Act.eval] at et8;have hO := hW;try dsimp only at hO
      have hh := hO.heap 0 rfl;have clq0 := (cOH hh 0).trans rfl;have clq1 := (cOH hh 1).trans rfl;have zz := hL_ hh;exact ⟨hW, .slice Au m cu, by go_simp, rfl⟩
    · intro sg ly act wx hl hd hW hF;simp [Region.binds] at hd;have et7 := hF.new 4 7 (by simp [hd]) rfl;simp [CoqV, Act.eval] at et7;have et9 := hF.new 6 9 (by simp [hd]) rfl;simp [CoqV, Act.eval] at et9;have n8 := hF.notYet 7 8 hl (by kernel_rfl);have n9 := hF.notYet 7 9 hl (by kernel_rfl);have y4 : ly 4 = true := by simp [hd]
      have hO := hW;try dsimp only at hO
      simp only [hl, n8, n9, y4, Bool.false_eq_true, if_false, if_true] at hO;refine wp_append_M (.tmp 7) (.tmp 9) 40 rfl hB0 _ 1 Try.underlying40 hB1 hB2 hB3 hB4 rfl (by simpa [Act.eval] using et7) (by simpa [Act.eval] using et9) (hO.owns 3 rfl) (HS.out.2.1 wx hO.bel) (HS.out.2.2.2) (by omega) (by omega) ?_;intro A' c' w' q' h1 h2 h3;rw [Nat.zero_add, List.nil_append] at h1;have hN := hO.upd 3 rfl h3 (i' := .own 4 1 A' m c' ys q') (show OwnS _ _ _ _ _ _ _ _ from h1) (fun x hx => (h2 x hx).imp id (fun e => by omega));refine ⟨{ sg with A2 := A', c2 := c', q2 := q' }, .slice A' m c', by rw [Nat.zero_add], ?_, fun _ => rfl, ?_⟩
      · simpa [upd, n8, n9, y4] using hN
      · intro i u hi h;have i7 : i ≠ 7 := by rintro rfl; rw [hl] at hi; cases hi
        have i8 : i ≠ 8 := by rintro rfl; rw [n8] at hi; cases hi
        have i9 : i ≠ 9 := by rintro rfl; rw [n9] at hi; cases hi
        unfold CoqV at h ⊢;split at h <;> first | exact h | exact absurd rfl i7 | exact absurd rfl i8 | exact absurd rfl i9
    · refine sP_ fun sg ly act wx hl hd hW hF => ?_;simp [Region.binds] at hd;have et6 := hF.new 3 6 (by simp [hd]) rfl;simp [CoqV, Act.eval] at et6;have et10 := hF.new 7 10 (by simp [hd]) rfl;simp [CoqV, Act.eval] at et10;exact ⟨hW, .agg #[.slice sg.A1 n sg.c1, .slice sg.A2 m sg.c2], by go_simp, rfl⟩
    · refine sS_ rfl fun sg ly act wx hl hd hW hF => ?_;simp [Region.binds] at hd;have et2 := hF.old 2 (by kernel_rfl);simp [Act.eval] at et2;have et11 := hF.new 8 11 (by simp [hd]) rfl;simp [CoqV, Act.eval] at et11;have hO := hW;try dsimp only at hO
      simp only [hl, Bool.false_eq_true, if_false, if_true] at hO;have hh := hO.heap 1 rfl;have clq0 := (cOH hh 0).trans rfl;have flq0 := fOH hh 0;have clq1 := (cOH hh 1).trans rfl;have flq1 := fOH hh 1;have zz := hL_ hh;refine ⟨((wx.setCell ⟨rb, 0, none⟩ (.slice sg.A1 n sg.c1)).setCell ⟨rb, 1, none⟩ (.slice sg.A2 m sg.c2)), sg, .skip, by go_simp, .inl rfl, ?_, fun _ _ _ h => h⟩;have hN := hO.set 1 rfl (((Keep.refl _ _).setCell (.inl (by simp)) (.slice sg.A1 n sg.c1)).setCell (.inl (by simp)) (.slice sg.A2 m sg.c2)) (hS_ (hS_ (hh) 0 (.slice sg.A1 n sg.c1)) 1 (.slice sg.A2 m sg.c2));simpa [upd, hl] using hN
  intro sg af w5 hWW hF;obtain ⟨ff, hf, rfl⟩ := hF.lit;obtain ⟨A1, c1, q1, b1, A2, c2, q2, b2⟩ := sg;have O5 : Own w.heap.size w [It.blk sb (.cells #[.slice Ar n cr, .slice Au m cu] 81), It.blk rb (.cells (if (fun j => decide (j < List.length (_ : List Oper))) 9 = true then #[.slice (CoS.mk A1 c1 q1 b1 A2 c2 q2 b2).A1 n (CoS.mk A1 c1 q1 b1 A2 c2 q2 b2).c1, .slice (CoS.mk A1 c1 q1 b1 A2 c2 q2 b2).A2 m (CoS.mk A1 c1 q1 b1 A2 c2 q2 b2).c2] else #[.slice none 0 0, .slice none 0 0]) 81), if (fun j => decide (j < List.length (_ : List Oper))) 0 = true then (if (fun j => decide (j < List.length (_ : List Oper))) 3 = true then It.own 3 1 (CoS.mk A1 c1 q1 b1 A2 c2 q2 b2).A1 n (CoS.mk A1 c1 q1 b1 A2 c2 q2 b2).c1 xs (CoS.mk A1 c1 q1 b1 A2 c2 q2 b2).q1 else It.own 3 1 (some ⟨(CoS.mk A1 c1 q1 b1 A2 c2 q2 b2).b1, 0, none⟩) 0 0 [] [(CoS.mk A1 c1 q1 b1 A2 c2 q2 b2).b1]) else noIt, if (fun j => decide (j < List.length (_ : List Oper))) 4 = true then (if (fun j => decide (j < List.length (_ : List Oper))) 7 = true then It.own 4 1 (CoS.mk A1 c1 q1 b1 A2 c2 q2 b2).A2 m (CoS.mk A1 c1 q1 b1 A2 c2 q2 b2).c2 ys (CoS.mk A1 c1 q1 b1 A2 c2 q2 b2).q2 else It.own 4 1 (some ⟨(CoS.mk A1 c1 q1 b1 A2 c2 q2 b2).b2, 0, none⟩) 0 0 [] [(CoS.mk A1 c1 q1 b1 A2 c2 q2 b2).b2]) else noIt] w5 := hWW;simp only [List.length_cons, List.length_nil, Nat.reduceAdd, Nat.reduceLT, decide_true, if_true] at O5;have g0 := (cOH (O5.heap 1 rfl) 0).trans rfl;have g1 := (cOH (O5.heap 1 rfl) 1).trans rfl;have H5 := Lib.hid O5;clear hf hF hWW O5;simp only [List.filterMap, List.foldl, List.setIfInBounds_toArray, List.set_cons_succ, List.set_cons_zero];go_wp2_with fail
  obtain ⟨hn, hm, hxs, hys⟩ := HN.out;refine bodyPost_ret (v := .agg #[.slice A1 n c1, .slice A2 m c2]) (by simp [results, Try.results127, go_sem, g0, g1]) rfl ?_;refine ⟨A1, c1, q1, A2, c2, q2, by simp only [sttV]; rw [← hn, ← hm], ?_, ?_, fun x hx => H5.out.ge 2 rfl (x := x) hx, fun x hx => H5.out.ge 3 rfl (x := x) hx, fun x hx hx2 => H5.out.dis 2 3 _ _ rfl rfl (by decide) x hx hx2, H5.out.bel⟩
  · rw [← hn, ← hxs]; exact H5.out.owns 2 rfl
  · rw [← hm, ← hys]; exact H5.out.owns 3 rfl
end Go.Proofs.Ythmldeningpjbaa
