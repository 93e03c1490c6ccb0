/- PortBest from Verify of the other berthing on (printed by wip/tools/ptbestl.py) -/
import Derived.Test.YthmldeningpjbaaPBp33
set_option linter.unusedVariables false
set_option linter.unusedSimpArgs false
namespace Go.Proofs.Ythmldeningpjbaa
open Go Go.RowKit Go.Lib Sp Pt
set_option linter.unusedVariables false
set_option linter.unusedSimpArgs false

set_option linter.unusedVariables false
def Bl38V (ib dl qb n cb : Nat) (Ab : Option Addr) (s : BlS) : Nat → Value → Prop
  | 0, v => v = .pointer (some ⟨qb, 1, none⟩)
  | 1, v => v = .slice Ab n cb
  | 2, v => v = .func (.func 70) #[] #[.pointer (some ⟨ib, 0, none⟩), .pointer (some ⟨dl, 0, none⟩)]
  | 3, v => v = .int .i64 s.x
  | 4, v => v = .int .i64 (2 * s.x)
  | 5, v => v = .int .i64 (300 + 2 * s.x)
  | 6, v => v = .slice (some ⟨s.b1, 0, none⟩) 1 1
  | 7, v => v = .agg #[.int .i64 (300 + 2 * s.x), .slice (some ⟨s.b1, 0, none⟩) 1 1]
  | 8, v => v = .slice (some ⟨s.b2, 0, none⟩) 1 1
  | 9, v => v = .slice s.A (n + 1) s.c
  | 10, v => v = .pointer (some ⟨qb, 1, none⟩)
  | _, _ => True
set_option maxRecDepth 100000 in
set_option maxHeartbeats 4000000 in
theorem best_z {Q0 : Exit → Act → World → Prop} {c : BlC} {w wb wx : World} {ib dl : Nat} {Ao : Option Addr} {co : Nat} {oth : List Plc} {qo : List Nat} {bn be wt : Int} (HP : BlP c) (HF : BlF c wb) (bw : Below w.heap.size w wb) (O : Own wb.heap.size wb [It.nx ib dl, It.own 109 2 Ao c.n co (plcs oth) qo] wx) (hol : oth.length = c.n) (hok : OthOk c.p c.vis oth) (hbn : bn = bestN c.p c.vis) (hbe : be = bestE c.p c.vis) (hwt : wt = wsum (waitOf c.vis oth) c.vis.length) {s0 s1 s2 s3 s4 s5 s10 s14 s15 s16 s17 s18 s21 s22 s23 s24 s25 s26 s27 s28 s29 s30 s31 s32 s33 s34 s35 s36 s37 s38 s39 s40 s41 s42 s43 s44 s45 s46 s47 s48 s49 s50 s51 s52 s53 s54 s55 s56 s57 s58 s59 s60 s61 s62 s63 s64 s65 s66 s67 s68 s69 s70 s71 s72 s73 s74 s75 s76 s77 s78 s79 s80 s81 s82 s83 s84 s85 s86 s87 s88 s89 s90 s91 s92 s93 s94 s95 s96 s97 s98 s99 s100 s101 s102 s103 s104 s105 s106 s107 s108 s109 s110 s111 s112 s113 s114 s115 s116 s117 s118 s119 s120 s121 s122 s123 s124 s125 s126 s127 s128 s129 s130 s131 s132 s133 s134 s135 s136 s137 s138 s139 s140 s141 s142 s143 s144 s145 s146 s147 s148 s149 s150 s151 s152 s153 s154 s155 s156 s157 s158 s159 s160 s161 s162 s163 s164 s165 s166 s167 s168 s169 s170 s171 s172 s173 s174 s175 s176 s177 s178 s179 s180 s181 s182 s183 s184 s185 s186 s187 s188 s189 s190 s191 s192 s193 s194 s195 s196 s197 s198 s199 s200 s201 s202 s203 s204 s205 s206 s207 s208 s209 s210 s211 s212 s213 s214 s215 s216 s217 s218 s219 s220 s221 s222 s223 s224 s225 s226 s227 s228 s229 s230 s231 s232 s233 s234 s235 s236 s237 s238 s239 : Value} (hQ0 : ∀ e1 a1 w1, bodyPost Try.prog Try.f8 (fun e w' => e = .returned (.bool true) ∧ Below w.heap.size w w') e1 a1 w1 → Q0 e1 a1 w1) :
    Code.wp Try.prog (restOf Try.f8 30) Q0 ⟨#[s0, s1, s2, s3, s4, s5, .bool false, .pointer (some ⟨c.pb, 0, none⟩), .func (.func 70) #[] #[.pointer (some ⟨ib, 0, none⟩), .pointer (some ⟨dl, 0, none⟩)], .slice c.Av c.n c.cv, s10, .slice c.Ap c.np c.cp, .int .i64 bn, .int .i64 be, s14, s15, s16, s17, s18, .slice Ao c.n co, .int .i64 wt, s21, s22, s23, s24, s25, s26, s27, s28, s29, s30, s31, s32, s33, s34, s35, s36, s37, s38, s39, s40, s41, s42, s43, s44, s45, s46, s47, s48, s49, s50, s51, s52, s53, s54, s55, s56, s57, s58, s59, s60, s61, s62, s63, s64, s65, s66, s67, s68, s69, s70, s71, s72, s73, s74, s75, s76, s77, s78, s79, s80, s81, s82, s83, s84, s85, s86, s87, s88, s89, s90, s91, s92, s93, s94, s95, s96, s97, s98, s99, s100, s101, s102, s103, s104, s105, s106, s107, s108, s109, s110, s111, s112, s113, s114, s115, s116, s117, s118, s119, s120, s121, s122, s123, s124, s125, s126, s127, s128, s129, s130, s131, s132, s133, s134, s135, s136, s137, s138, s139, s140, s141, s142, s143, s144, s145, s146, s147, s148, s149, s150, s151, s152, s153, s154, s155, s156, s157, s158, s159, s160, s161, s162, s163, s164, s165, s166, s167, s168, s169, s170, s171, s172, s173, s174, s175, s176, s177, s178, s179, s180, s181, s182, s183, s184, s185, s186, s187, s188, s189, s190, s191, s192, s193, s194, s195, s196, s197, s198, s199, s200, s201, s202, s203, s204, s205, s206, s207, s208, s209, s210, s211, s212, s213, s214, s215, s216, s217, s218, s219, s220, s221, s222, s223, s224, s225, s226, s227, s228, s229, s230, s231, s232, s233, s234, s235, s236, s237, s238, s239], []⟩ wx := by
  refine wp_mono ?_ hQ0
  clear hQ0
  conv => arg 2; whnf
  obtain ⟨iT0, iT1, iT2, iT3, iT4⟩ := info_parts infoBrt9
  have hask := HP.ask
  have hva := HP.vok.all
  have hn4 : c.n ≤ 4 := by have := HP.n4; have := HP.hn; omega
  have hnb := HP.md.nb
  have hnc := HP.md.nc
  have hE := HF.below O.bel
  obtain ⟨g0, g1, g2, zg⟩ := hE.cells
  have hoo := O.owns 1 rfl
  have kv : Calls Try.prog 48 #[.agg (prtV c.Ac c.cc c.Ab c.cb c.p), .slice c.Av c.n c.cv, .slice Ao c.n co] wx (VerPost wx c.p c.vis oth) := by
    have h := Verify_any wx.heap.size c.Ac c.cc c.Ab c.cb c.p c.Av c.cv c.vis Ao co oth wx hE.PB hE.VB (by rw [hol]; exact RdB.of hoo.rd (Nat.le_refl _)) (by rw [hol]; exact ⟨hoo.ge, hoo.cap⟩) (Nat.le_refl _)
    rw [hol, ← HP.hn] at h
    exact h
  obtain ⟨f, hf⟩ : ∃ f, f = verE c.p c.vis oth := ⟨_, rfl⟩
  obtain ⟨k, hk⟩ : ∃ f, f = verN c.p c.vis oth := ⟨_, rfl⟩
  unfold VerPost at kv
  rw [← hf, ← hk] at kv
  have hcase := bl_oth hask hva (by rw [hol, HP.hn]) hok
  rw [← hf, ← hk, ← hbn, ← hbe, ← hwt] at hcase
  have hcap : c.np ≤ 5 := HP.np5
  have HA := Lib.hid (And.intro HP (And.intro HF (And.intro bw (And.intro O (And.intro hol (And.intro hask hva))))))
  have HB := Lib.hid (And.intro hbn (And.intro hbe hwt))
  have HK := Lib.hid (And.intro kv hcase)
  clear HP HF bw O hol hok hask hva hE hoo kv hf hk hcase hbn hbe hwt
  go_upto_block 4 with (go_at_call 48; refine HK.out.1.mono ?_; rintro e w3 ⟨rfl, b3⟩; have HB3 := Lib.hid b3; clear b3)
  clear g0 g1 g2 zg
  have O3 := HA.out.2.2.2.1.below HB3.out
  have keq : ∀ wy, Below w3.heap.size w3 wy → Calls Try.prog 49 #[.slice Ao c.n co, .slice c.Ap c.np c.cp] wy fun e w' => e = .returned (.bool (decide (oth = bestV c.p c.vis))) ∧ Below wy.heap.size wy w' := fun wy by_ => by
    have h1 := (O3.owns 1 rfl).rd.below by_
    rw [← HA.out.2.2.2.2.1] at h1
    have hF := (HA.out.2.1.below O3.bel).below by_
    have h := eqPlcs_any Ao co oth c.Ap c.cp (bestV c.p c.vis) wy h1 (hF.AB.rd (Nat.le_refl _)) (by have := HA.out.2.2.2.2.1; omega) (by have := HA.out.1.hnp; omega)
    rwa [HA.out.2.2.2.2.1, ← HA.out.1.hnp] at h
  have H3 := Lib.hid (And.intro O3 keq)
  clear O3 keq
  go_cut [6] from 156 to 205 (fun a wy => a = .bool false ∧ Below w3.heap.size w3 wy)
  case first =>
    rcases HK.out.2 with ⟨h1, h2, h3, h4⟩ | ⟨h1, h2, h3, h4⟩ | h1 | h1
    · subst h1 h2
      have HE := Lib.hid (And.intro h3 h4)
      have hkb : (k != bn) = false := by simp [h4]
      clear h3 h4
      go_wp2_with (go_at_call 49; refine (H3.out.2 _ (Below.refl _ _)).mono ?_; rw [decide_eq_true HE.out.1]; rintro e w4 ⟨rfl, b4⟩; have HB4 := Lib.hid b4; clear b4)
      go_meet
      exact ⟨rfl, HB4.out⟩
    · subst h1 h2
      have HE := Lib.hid h4
      clear h4
      have hle : bn ≤ wt := h3
      go_wp2_with (go_at_call 49; refine (H3.out.2 _ (Below.refl _ _)).mono ?_; rw [decide_eq_false HE.out]; rintro e w4 ⟨rfl, b4⟩; have HB4 := Lib.hid b4; clear b4)
      go_meet
      exact ⟨rfl, HB4.out⟩
    · subst h1
      go_wp2_with fail
      go_meet
      exact ⟨rfl, Below.refl _ _⟩
    · subst h1
      go_wp2_with fail
      go_meet
      exact ⟨rfl, Below.refl _ _⟩
  case rest =>
    obtain ⟨rfl, b4⟩ := hcut
    obtain ⟨w4, rfl, b4⟩ : ∃ wz, wz = _ ∧ Below w3.heap.size w3 wz := ⟨_, rfl, b4⟩
    have O4 := H3.out.1.below b4
    have hE := HA.out.2.1.below O4.bel
    obtain ⟨g0, g1, g2, zg⟩ := hE.cells
    have kcp := copyPort_own w4.heap.size c.Ac c.cc c.Ab c.cb c.p w4 hE.PB (Nat.le_refl _) (by omega) (by omega) (fun b hb => by have := (HA.out.1.md.btf b hb).2.2.ok.2.2.2.2; omega)
    have H4 := Lib.hid (And.intro O4 kcp)
    clear O4 kcp hE b4
    go_upto_region 38 with (go_at_call 31; refine H4.out.2.mono ?_; intro e w5 hc5; obtain ⟨Ac1, cc1, Ab1, cb1, q1, q2, qc, L, rfl, hL, O5, b5⟩ := H4.out.1.copied hc5; have H5 := Lib.hid (And.intro hL (And.intro O5 b5)); clear hc5 hL O5 b5)
    clear g0 g1 g2 zg
    obtain ⟨qb, hqb⟩ : ∃ b, b = w5.heap.size := ⟨_, rfl⟩
    obtain ⟨X5, hX5⟩ : ∃ X, X = w5.alloc (.cells #[.slice Ac1 c.p.chs.length cc1, .slice Ab1 c.p.bts.length cb1, .int .i64 c.p.tugs] 26) := ⟨_, rfl⟩
    rw [← hX5, ← hqb]
    have OX : Own wb.heap.size wb [It.nx ib dl, It.own 109 2 Ao c.n co (plcs oth) qo, It.own 53 2 Ab1 c.p.bts.length cb1 (brcs L) q2, .gen qc (ChPa Ac1 cc1 q1 c.p L), .blk qb (.cells (prtV Ac1 cc1 Ab1 cb1 c.p) 26)] X5 := by rw [hX5, hqb]; exact H5.out.2.1.alloc _
    have HX := Lib.hid OX
    clear OX hX5 hqb
    refine wp_region_steps (σ := BlS) (by kernel_rfl) (by kernel_rfl) (fun sg jx vx _ => Bl38V ib dl qb c.p.bts.length cb1 Ab1 sg jx vx) (fun sg ly wx => Own wb.heap.size wb [It.nx ib dl, It.own 109 2 Ao c.n co (plcs oth) qo, if ly 9 = true then It.own 53 2 sg.A (c.p.bts.length + 1) sg.c (brcs L ++ [.int .i64 (300 + 2 * sg.x), .slice (some ⟨sg.b1, 0, none⟩) 1 1]) sg.q else It.own 53 2 Ab1 c.p.bts.length cb1 (brcs L) q2, It.gen qc (ChPa Ac1 cc1 q1 c.p L), It.blk qb (.cells (if ly 11 = true then #[.slice Ac1 c.p.chs.length cc1, .slice sg.A (c.p.bts.length + 1) sg.c, .int .i64 c.p.tugs] else prtV Ac1 cc1 Ab1 cb1 c.p) 26), if ly 3 = true then It.gen [] (fun _ => 0 ≤ sg.x ∧ sg.x < 256) else noIt, if ly 6 = true then It.blk sg.b1 (.cells #[.int .i64 0] 3) else noIt, if ly 8 = true then It.blk sg.b2 (.cells #[.int .i64 (300 + 2 * sg.x), .slice (some ⟨sg.b1, 0, none⟩) 1 1] 53) else noIt] wx) ⟨0, 0, 0, 0, none, 0, []⟩ ?_ ?_ ?_
    · exact HX.out.blank.blank.blank.drew
    · simp only [AllFrom, Nat.zero_add, Nat.reduceAdd]
      refine ⟨?_, ?_, ?_, ?_, ?_, ?_, ?_, ?_, ?_, ?_, ?_, ?_, trivial⟩
      · refine step_pure fun sg ly act wx hl hd hW hF => ?_
        have et25 := hF.old 25 (by kernel_rfl)
        simp [Act.eval] at et25
        exact ⟨hW, .pointer (some ⟨qb, 1, none⟩), by go_simp, rfl⟩
      · refine step_pure fun sg ly act wx hl hd hW hF => ?_
        simp [Region.binds] at hd
        have et208 := hF.new 0 208 (by simp [hd]) rfl
        simp [Bl38V, Act.eval] at et208
        have hO := hW
        try dsimp only at hO
        have n11 := hF.notYet 1 11 hl (by kernel_rfl)
        simp only [n11, Bool.false_eq_true, if_false, if_true] at hO
        have hh := hO.heap 4 rfl
        have clq0 := (cell_of_heap hh 0).trans rfl
        have clq1 := (cell_of_heap hh 1).trans rfl
        have clq2 := (cell_of_heap hh 2).trans rfl
        have zz := heap_lt hh
        exact ⟨hW, .slice Ab1 c.p.bts.length cb1, by go_simp, rfl⟩
      · refine step_pure fun sg ly act wx hl hd hW hF => ?_
        have et8 := hF.old 8 (by kernel_rfl)
        simp [Act.eval] at et8
        exact ⟨hW, .func (.func 70) #[] #[.pointer (some ⟨ib, 0, none⟩), .pointer (some ⟨dl, 0, none⟩)], by go_simp, rfl⟩
      · refine step_call fun sg ly act wx hl hd hW hF => ?_
        simp [Region.binds] at hd
        have et210 := hF.new 2 210 (by simp [hd]) rfl
        simp [Bl38V, Act.eval] at et210
        have n4 := hF.notYet 3 4 hl (by kernel_rfl)
        have n5_4 := hF.notYet 3 4 hl (by kernel_rfl)
        have n5 := hF.notYet 4 5 n5_4 (by kernel_rfl)
        have n7_4 := hF.notYet 3 4 hl (by kernel_rfl)
        have n7_5 := hF.notYet 4 5 n7_4 (by kernel_rfl)
        have n7 := hF.notYet 5 7 n7_5 (by kernel_rfl)
        have n8_4 := hF.notYet 3 4 hl (by kernel_rfl)
        have n8_5 := hF.notYet 4 5 n8_4 (by kernel_rfl)
        have n8_7 := hF.notYet 5 7 n8_5 (by kernel_rfl)
        have n8 := hF.notYet 7 8 n8_7 (by kernel_rfl)
        have n9 := hF.notYet 3 9 hl (by kernel_rfl)
        have n11 := hF.notYet 3 11 hl (by kernel_rfl)
        have hO := hW
        try dsimp only at hO
        simp only [hl, n4, n5, n7, n8, n9, n11, Bool.false_eq_true, if_false, if_true] at hO
        refine ⟨70, #[.int .i64 (256), .pointer (some ⟨ib, 0, none⟩), .pointer (some ⟨dl, 0, none⟩)], by go_simp, ?_⟩
        refine (next_some (256) (hO.nxt 0 rfl) (by decide)).mono ?_
        rintro e w2 ⟨x, rfl, hx, nx3, k3, s3⟩
        have hN := (hO.next 0 rfl nx3 k3).newG 5 rfl (q := []) (P := fun _ => 0 ≤ x ∧ x < 256) (Below.refl _ _) ⟨by simp, fun _ _ _ _ => hx⟩ (by simp)
        refine ⟨.int .i64 x, { sg with x := x }, rfl, ?_, rfl, ?_⟩
        · simpa [upd, n4, n5, n7, n8, n9, n11] using hN
        · intro i u hi h
          have i3 : i ≠ 3 := by rintro rfl; rw [hl] at hi; cases hi
          have i4 : i ≠ 4 := by rintro rfl; rw [n4] at hi; cases hi
          have i5 : i ≠ 5 := by rintro rfl; rw [n5] at hi; cases hi
          have i7 : i ≠ 7 := by rintro rfl; rw [n7] at hi; cases hi
          have i8 : i ≠ 8 := by rintro rfl; rw [n8] at hi; cases hi
          have i9 : i ≠ 9 := by rintro rfl; rw [n9] at hi; cases hi
          have i11 : i ≠ 11 := by rintro rfl; rw [n11] at hi; cases hi
          unfold Bl38V at h ⊢
          split at h <;> first | exact h | exact absurd rfl i3 | exact absurd rfl i4 | exact absurd rfl i5 | exact absurd rfl i7 | exact absurd rfl i8 | exact absurd rfl i9 | exact absurd rfl i11
      · refine step_pure fun sg ly act wx hl hd hW hF => ?_
        simp [Region.binds] at hd
        have et211 := hF.new 3 211 (by simp [hd]) rfl
        simp [Bl38V, Act.eval] at et211
        have y3 : ly 3 = true := by simp [hd]
        have hO := hW
        try dsimp only at hO
        simp only [y3, Bool.false_eq_true, if_false, if_true] at hO
        have hb : 0 ≤ sg.x ∧ sg.x < 256 := hO.thing 5 rfl
        have ew := IntWalk.i64_in (2 * sg.x) (by omega)
        exact ⟨hW, .int .i64 (2 * sg.x), by go_simp, rfl⟩
      · refine step_pure fun sg ly act wx hl hd hW hF => ?_
        simp [Region.binds] at hd
        have et212 := hF.new 4 212 (by simp [hd]) rfl
        simp [Bl38V, Act.eval] at et212
        have y3 := hF.before 3 4 (by simp [hd]) (by kernel_rfl)
        have hO := hW
        try dsimp only at hO
        simp only [y3, Bool.false_eq_true, if_false, if_true] at hO
        have hb : 0 ≤ sg.x ∧ sg.x < 256 := hO.thing 5 rfl
        have ew := IntWalk.i64_in (300 + 2 * sg.x) (by omega)
        exact ⟨hW, .int .i64 (300 + 2 * sg.x), by go_simp, rfl⟩
      · refine step_run fun sg ly act wx hl hd hW hF => ?_
        have n7 := hF.notYet 6 7 hl (by kernel_rfl)
        have n8_7 := hF.notYet 6 7 hl (by kernel_rfl)
        have n8 := hF.notYet 7 8 n8_7 (by kernel_rfl)
        have n9_7 := hF.notYet 6 7 hl (by kernel_rfl)
        have n9_8 := hF.notYet 7 8 n9_7 (by kernel_rfl)
        have n9 := hF.notYet 8 9 n9_8 (by kernel_rfl)
        have n11 := hF.notYet 6 11 hl (by kernel_rfl)
        have hO := hW
        try dsimp only at hO
        simp only [hl, n7, n8, n9, n11, Bool.false_eq_true, if_false, if_true] at hO
        refine ⟨_, wx.alloc (.cells #[.int .i64 0] 3), { sg with b1 := wx.heap.size }, by go_simp, ?_, rfl, ?_⟩
        · have hN := hO.newB 6 rfl (.cells #[.int .i64 0] 3)
          simpa [upd, n7, n8, n9, n11] using hN
        · intro i u hi h
          have i6 : i ≠ 6 := by rintro rfl; rw [hl] at hi; cases hi
          have i7 : i ≠ 7 := by rintro rfl; rw [n7] at hi; cases hi
          have i8 : i ≠ 8 := by rintro rfl; rw [n8] at hi; cases hi
          have i9 : i ≠ 9 := by rintro rfl; rw [n9] at hi; cases hi
          have i11 : i ≠ 11 := by rintro rfl; rw [n11] at hi; cases hi
          unfold Bl38V at h ⊢
          split at h <;> first | exact h | exact absurd rfl i6 | exact absurd rfl i7 | exact absurd rfl i8 | exact absurd rfl i9 | exact absurd rfl i11
      · refine step_pure fun sg ly act wx hl hd hW hF => ?_
        simp [Region.binds] at hd
        have et213 := hF.new 5 213 (by simp [hd]) rfl
        simp [Bl38V, Act.eval] at et213
        have et214 := hF.new 6 214 (by simp [hd]) rfl
        simp [Bl38V, Act.eval] at et214
        exact ⟨hW, .agg #[.int .i64 (300 + 2 * sg.x), .slice (some ⟨sg.b1, 0, none⟩) 1 1], by go_simp, rfl⟩
      · refine step_run fun sg ly act wx hl hd hW hF => ?_
        simp [Region.binds] at hd
        have et215 := hF.new 7 215 (by simp [hd]) rfl
        simp [Bl38V, Act.eval] at et215
        have n9 := hF.notYet 8 9 hl (by kernel_rfl)
        have n11 := hF.notYet 8 11 hl (by kernel_rfl)
        have hO := hW
        try dsimp only at hO
        simp only [hl, n9, n11, Bool.false_eq_true, if_false, if_true] at hO
        refine ⟨_, wx.alloc (.cells #[.int .i64 (300 + 2 * sg.x), .slice (some ⟨sg.b1, 0, none⟩) 1 1] 53), { sg with b2 := wx.heap.size }, by go_simp, ?_, rfl, ?_⟩
        · have hN := hO.newB 7 rfl (.cells #[.int .i64 (300 + 2 * sg.x), .slice (some ⟨sg.b1, 0, none⟩) 1 1] 53)
          simpa [upd, n9, n11] using hN
        · intro i u hi h
          have i8 : i ≠ 8 := by rintro rfl; rw [hl] at hi; cases hi
          have i9 : i ≠ 9 := by rintro rfl; rw [n9] at hi; cases hi
          unfold Bl38V at h ⊢
          split at h <;> first | exact h | exact absurd rfl i8 | exact absurd rfl i9
      · intro sg ly act wx hl hd hW hF
        simp [Region.binds] at hd
        have et209 := hF.new 1 209 (by simp [hd]) rfl
        simp [Bl38V, Act.eval] at et209
        have et216 := hF.new 8 216 (by simp [hd]) rfl
        simp [Bl38V, Act.eval] at et216
        have n11 := hF.notYet 9 11 hl (by kernel_rfl)
        have y8 : ly 8 = true := by simp [hd]
        have hO := hW
        try dsimp only at hO
        simp only [hl, n11, y8, Bool.false_eq_true, if_false, if_true] at hO
        have hbs := hO.heap 7 rfl
        refine wp_append_S (.tmp 209) (.tmp 216) 24 rfl iT0 _ 32 Try.underlying24 iT1 iT2 iT3 (show (0 : Nat) < 2 from by decide) iT4 rfl (by simpa [Act.eval] using et209) ⟨sg.b2, 0, none⟩ (by simpa [Act.eval] using et216) [.int .i64 (300 + 2 * sg.x), .slice (some ⟨sg.b1, 0, none⟩) 1 1] (hO.owns 2 rfl) rfl (fun j v hj => by rw [show (⟨sg.b2, 0, none⟩ : Addr).add j = ⟨sg.b2, j, none⟩ from by simp [Addr.add]; omega]; exact (cell_of_heap hbs j).trans (by simpa using hj)) (by simp [Value.oneCell']) (by omega) (by decide) ?_
        intro g c' w' o1 o2 o3 o4
        have hN := hO.upd 2 rfl o4 (i' := .own 53 2 (some ⟨g, 0, none⟩) (c.p.bts.length + 1) c' (brcs L ++ [.int .i64 (300 + 2 * sg.x), .slice (some ⟨sg.b1, 0, none⟩) 1 1]) [g]) (by exact o1) (fun x hx => by rw [List.mem_singleton.1 hx]; rcases o2 with e | e; exact .inl e; exact .inr (Nat.le_of_eq e))
        refine ⟨{ sg with A := some ⟨g, 0, none⟩, c := c', q := [g] }, .slice (some ⟨g, 0, none⟩) (c.p.bts.length + 1) c', rfl, ?_, fun _ => rfl, ?_⟩
        · simpa [upd, n11, y8] using hN
        · intro i u hi h
          have i9 : i ≠ 9 := by rintro rfl; rw [hl] at hi; cases hi
          have i11 : i ≠ 11 := by rintro rfl; rw [n11] at hi; cases hi
          unfold Bl38V at h ⊢
          split at h <;> first | exact h | exact absurd rfl i9 | exact absurd rfl i11
      · refine step_pure fun sg ly act wx hl hd hW hF => ?_
        have et25 := hF.old 25 (by kernel_rfl)
        simp [Act.eval] at et25
        exact ⟨hW, .pointer (some ⟨qb, 1, none⟩), by go_simp, rfl⟩
      · refine step_store rfl fun sg ly act wx hl hd hW hF => ?_
        simp [Region.binds] at hd
        have et218 := hF.new 10 218 (by simp [hd]) rfl
        simp [Bl38V, Act.eval] at et218
        have et217 := hF.new 9 217 (by simp [hd]) rfl
        simp [Bl38V, Act.eval] at et217
        have y9 : ly 9 = true := by simp [hd]
        have hO := hW
        try dsimp only at hO
        simp only [hl, y9, Bool.false_eq_true, if_false, if_true] at hO
        have hh := hO.heap 4 rfl
        have clq0 := (cell_of_heap hh 0).trans rfl
        have flq0 := frozen_of_heap hh 0
        have clq1 := (cell_of_heap hh 1).trans rfl
        have flq1 := frozen_of_heap hh 1
        have clq2 := (cell_of_heap hh 2).trans rfl
        have flq2 := frozen_of_heap hh 2
        have zz := heap_lt hh
        refine ⟨(wx.setCell ⟨qb, 1, none⟩ (.slice sg.A (c.p.bts.length + 1) sg.c)), sg, .skip, by go_simp, .inl rfl, ?_, fun _ _ _ h => h⟩
        have hN := hO.set 4 rfl ((Keep.refl _ _).setCell (.inl (by simp)) (.slice sg.A (c.p.bts.length + 1) sg.c)) (heap_set (hh) 1 (.slice sg.A (c.p.bts.length + 1) sg.c))
        simpa [upd, y9, hl] using hN
    intro sg af w8 hWW hF
    obtain ⟨ff, hf, rfl⟩ := hF.lit
    obtain ⟨x, y, b1, b2, Aq, cq, qq⟩ := sg
    have O8 : Own wb.heap.size wb [It.nx ib dl, It.own 109 2 Ao c.n co (plcs oth) qo, if (fun j => decide (j < List.length (_ : List Oper))) 9 = true then It.own 53 2 (BlS.mk x y b1 b2 Aq cq qq).A (c.p.bts.length + 1) (BlS.mk x y b1 b2 Aq cq qq).c (brcs L ++ [.int .i64 (300 + 2 * (BlS.mk x y b1 b2 Aq cq qq).x), .slice (some ⟨(BlS.mk x y b1 b2 Aq cq qq).b1, 0, none⟩) 1 1]) (BlS.mk x y b1 b2 Aq cq qq).q else It.own 53 2 Ab1 c.p.bts.length cb1 (brcs L) q2, It.gen qc (ChPa Ac1 cc1 q1 c.p L), It.blk qb (.cells (if (fun j => decide (j < List.length (_ : List Oper))) 11 = true then #[.slice Ac1 c.p.chs.length cc1, .slice (BlS.mk x y b1 b2 Aq cq qq).A (c.p.bts.length + 1) (BlS.mk x y b1 b2 Aq cq qq).c, .int .i64 c.p.tugs] else prtV Ac1 cc1 Ab1 cb1 c.p) 26), if (fun j => decide (j < List.length (_ : List Oper))) 3 = true then It.gen [] (fun _ => 0 ≤ (BlS.mk x y b1 b2 Aq cq qq).x ∧ (BlS.mk x y b1 b2 Aq cq qq).x < 256) else noIt, if (fun j => decide (j < List.length (_ : List Oper))) 6 = true then It.blk (BlS.mk x y b1 b2 Aq cq qq).b1 (.cells #[.int .i64 0] 3) else noIt, if (fun j => decide (j < List.length (_ : List Oper))) 8 = true then It.blk (BlS.mk x y b1 b2 Aq cq qq).b2 (.cells #[.int .i64 (300 + 2 * (BlS.mk x y b1 b2 Aq cq qq).x), .slice (some ⟨(BlS.mk x y b1 b2 Aq cq qq).b1, 0, none⟩) 1 1] 53) else noIt] w8 := hWW
    simp only [List.length_cons, List.length_nil, Nat.reduceAdd, Nat.reduceLT, decide_true, if_true] at O8
    have hx : 0 ≤ x ∧ x < 256 := O8.thing 5 rfl
    have hh8 := O8.heap 4 rfl
    have g0 := (cell_of_heap hh8 0).trans rfl
    have g1 := (cell_of_heap hh8 1).trans rfl
    have g2 := (cell_of_heap hh8 2).trans rfl
    have zg := heap_lt hh8
    have hch : ChPa Ac1 cc1 q1 c.p L w8 := O8.thing 3 rfl
    have hbt := O8.owns 2 rfl
    have hpa := O8.heap 6 rfl
    have hbl : (moreP c.p x).bts.length = c.p.bts.length + 1 := by simp [moreP]
    have PQ : PrtB w8.heap.size w8 Ac1 cc1 Aq cq (moreP c.p x) := by
      refine PrtB.of_own (S := []) (e1 := 144) (e2 := 53) (q1 := q1) (q2 := qq) (L := L ++ [⟨⟨300 + 2 * x, [0]⟩, some ⟨b1, 0, none⟩, 1⟩]) hch.1 ?_ ?_ ?_
      · rw [hbl]
        have e : brcs (L ++ [⟨⟨300 + 2 * x, [0]⟩, some ⟨b1, 0, none⟩, 1⟩]) = brcs L ++ [.int .i64 (300 + 2 * x), .slice (some ⟨b1, 0, none⟩) 1 1] := flat_snoc _ _ _
        rw [e]; exact hbt
      · rw [List.map_append, H5.out.1]; rfl
      · refine hch.2.snoc ⟨⟨rfl, fun _ => ⟨b1, 0, rfl, heap_lt hpa, fun j u hu => (cell_of_heap hpa _).trans (by simpa [ints] using hu)⟩⟩, fun _ _ _ _ => by simp, by simp, by simp, fun h => by cases h⟩
    have hE8 := HA.out.2.1.below O8.bel
    have kb := Best_any w8.heap.size Ac1 cc1 Aq cq (moreP c.p x) c.Av c.cv c.vis w8 PQ hE8.VB (Nat.le_refl _)
    have e9 : prtV Ac1 cc1 Aq cq (moreP c.p x) = #[.slice Ac1 c.p.chs.length cc1, .slice Aq (c.p.bts.length + 1) cq, .int .i64 c.p.tugs] := by simp [prtV, moreP]
    rw [e9, ← HA.out.1.hn] at kb
    obtain ⟨f2, hf2⟩ : ∃ f, f = bestE (moreP c.p x) c.vis := ⟨_, rfl⟩
    obtain ⟨k2, hk2⟩ : ∃ f, f = bestN (moreP c.p x) c.vis := ⟨_, rfl⟩
    obtain ⟨n2, hn2⟩ : ∃ f, f = (bestV (moreP c.p x) c.vis).length := ⟨_, rfl⟩
    unfold BestPost at kb
    rw [← hf2, ← hk2, ← hn2] at kb
    have hmo : be = 0 → f2 = 0 ∧ k2 ≤ bn := fun h0 => by
      have h := bl_more HA.out.2.2.2.2.2.1 (asked_of (checkP_more HA.out.1.md hx) HA.out.1.vok HA.out.1.n4) HA.out.2.2.2.2.2.2 (by rw [← HB.out.2.1, h0])
      rw [hf2, hk2, HB.out.1]
      exact h
    have hbe2 : be = 0 ∨ be = 4 := by
      rw [HB.out.2.1]
      rcases bl_best HA.out.2.2.2.2.2.1 HA.out.2.2.2.2.2.2 with h | h
      · exact .inl h.1
      · exact .inr h.1
    have H8 := Lib.hid (And.intro kb (HA.out.2.2.1.trans (O8.bel.mono HA.out.2.2.1.size)))
    have KW := Lib.hid awakeP_any
    clear hWW hF hf O8 hh8 hch hbt hpa hbl PQ hE8 kb e9 hf2 hk2 hn2
    simp only [List.filterMap, List.foldl, List.setIfInBounds_toArray, List.set_cons_succ, List.set_cons_zero]
    rcases hbe2 with rfl | rfl
    · obtain ⟨rfl, hle⟩ := hmo rfl
      go_wp2_with (first | (go_at_call 46; refine H8.out.1.mono ?_; rintro e w9 ⟨A9, c9, rfl, o1, o2, b9⟩; have HB9 := Lib.hid b9; clear o1 o2 b9) | (go_at_call 15; refine (KW.out _).mono ?_; rintro e w10 ⟨rfl, b10⟩; have HB10 := Lib.hid b10; clear b10))
      go_ret
      exact ⟨rfl, H8.out.2.trans ((HB9.out.trans (HB10.out.mono HB9.out.size)).mono H8.out.2.size)⟩
    · clear hmo
      go_wp2_with (first | (go_at_call 46; refine H8.out.1.mono ?_; rintro e w9 ⟨A9, c9, rfl, o1, o2, b9⟩; have HB9 := Lib.hid b9; clear o1 o2 b9) | (go_at_call 15; refine (KW.out _).mono ?_; rintro e w10 ⟨rfl, b10⟩; have HB10 := Lib.hid b10; clear b10))
      go_ret
      exact ⟨rfl, H8.out.2.trans ((HB9.out.trans (HB10.out.mono HB9.out.size)).mono H8.out.2.size)⟩
end Go.Proofs.Ythmldeningpjbaa
