/- PortBest: the other berthing (printed by wip/tools/ptbestl.py) -/
import Derived.Test.YthmldeningpjbaaPBp34
set_option linter.unusedVariables false
set_option linter.unusedSimpArgs false
namespace Go.Proofs.Ythmldeningpjbaa
open Go Go.RowKit Go.Lib Sp Pt
set_option linter.unusedVariables false
set_option linter.unusedSimpArgs false

set_option linter.unusedVariables false
def Bl26V (ib dl pb vb m cb : Nat) (Ab : Option Addr) (ar la : Int) (s : BlS) : Nat → Value → Prop
  | 0, v => v = .func (.func 70) #[] #[.pointer (some ⟨ib, 0, none⟩), .pointer (some ⟨dl, 0, none⟩)]
  | 1, v => v = .pointer (some ⟨pb, 1, none⟩)
  | 2, v => v = .slice Ab m cb
  | 3, v => v = .int .i64 m
  | 4, v => v = .int .i64 s.x
  | 5, v => v = .pointer (some ⟨vb, 0, none⟩)
  | 6, v => v = .int .i64 ar
  | 7, v => v = .func (.func 70) #[] #[.pointer (some ⟨ib, 0, none⟩), .pointer (some ⟨dl, 0, none⟩)]
  | 8, v => v = .pointer (some ⟨vb, 1, none⟩)
  | 9, v => v = .int .i64 la
  | 10, v => v = .pointer (some ⟨vb, 0, none⟩)
  | 11, v => v = .int .i64 ar
  | 12, v => v = .int .i64 (la - ar)
  | 13, v => v = .int .i64 (la - ar + 1)
  | 14, v => v = .int .i64 s.y
  | 15, v => v = .int .i64 (ar + s.y)
  | 16, v => v = .agg #[.int .i64 s.x, .int .i64 (ar + s.y)]
  | 17, v => v = .pointer (some ⟨s.b1, 0, none⟩)
  | _, _ => True
set_option maxRecDepth 100000 in
set_option maxHeartbeats 4000000 in
theorem best_y {Q0 : Exit → Act → World → Prop} {c : BlC} {w wb : World} {A2 : Option Addr} {c2 : Nat} {l2 : List Int} {bn be : Int} (HP : BlP c) (HF : BlF c wb) (bw : Below w.heap.size w wb) (hr2 : Rd w 1 A2 l2.length (byts l2)) (hl2 : Bytes l2) (hm2 : l2.length ≤ 9223372036854775800) (hbn : bn = bestN c.p c.vis) (hbe : be = bestE c.p c.vis) {s0 s1 s3 s4 s5 s8 s10 s14 s15 s16 s17 s18 s19 s20 s21 s22 s23 s24 s25 s26 s27 s28 s29 s30 s31 s32 s33 s34 s35 s36 s37 s38 s39 s40 s41 s42 s43 s44 s45 s46 s47 s48 s49 s50 s51 s52 s53 s54 s55 s56 s57 s58 s59 s60 s61 s62 s63 s64 s65 s66 s67 s68 s69 s70 s71 s72 s73 s74 s75 s76 s77 s78 s79 s80 s81 s82 s83 s84 s85 s86 s87 s88 s89 s90 s91 s92 s93 s94 s95 s96 s97 s98 s99 s100 s101 s102 s103 s104 s105 s106 s107 s108 s109 s110 s111 s112 s113 s114 s115 s116 s117 s118 s119 s120 s121 s122 s123 s124 s125 s126 s127 s128 s129 s130 s131 s132 s133 s134 s135 s136 s137 s138 s139 s140 s141 s142 s143 s144 s145 s146 s147 s148 s149 s150 s151 s152 s153 s154 s155 s156 s157 s158 s159 s160 s161 s162 s163 s164 s165 s166 s167 s168 s169 s170 s171 s172 s173 s174 s175 s176 s177 s178 s179 s180 s181 s182 s183 s184 s185 s186 s187 s188 s189 s190 s191 s192 s193 s194 s195 s196 s197 s198 s199 s200 s201 s202 s203 s204 s205 s206 s207 s208 s209 s210 s211 s212 s213 s214 s215 s216 s217 s218 s219 s220 s221 s222 s223 s224 s225 s226 s227 s228 s229 s230 s231 s232 s233 s234 s235 s236 s237 s238 s239 : Value} (hQ0 : ∀ e1 a1 w1, bodyPost Try.prog Try.f8 (fun e w' => e = .returned (.bool true) ∧ Below w.heap.size w w') e1 a1 w1 → Q0 e1 a1 w1) :
    Code.wp Try.prog (restOf Try.f8 20) Q0 ⟨#[s0, s1, .slice A2 l2.length c2, s3, s4, s5, .bool false, .pointer (some ⟨c.pb, 0, none⟩), s8, .slice c.Av c.n c.cv, s10, .slice c.Ap c.np c.cp, .int .i64 bn, .int .i64 be, s14, s15, s16, s17, s18, s19, s20, s21, s22, s23, s24, s25, s26, s27, s28, s29, s30, s31, s32, s33, s34, s35, s36, s37, s38, s39, s40, s41, s42, s43, s44, s45, s46, s47, s48, s49, s50, s51, s52, s53, s54, s55, s56, s57, s58, s59, s60, s61, s62, s63, s64, s65, s66, s67, s68, s69, s70, s71, s72, s73, s74, s75, s76, s77, s78, s79, s80, s81, s82, s83, s84, s85, s86, s87, s88, s89, s90, s91, s92, s93, s94, s95, s96, s97, s98, s99, s100, s101, s102, s103, s104, s105, s106, s107, s108, s109, s110, s111, s112, s113, s114, s115, s116, s117, s118, s119, s120, s121, s122, s123, s124, s125, s126, s127, s128, s129, s130, s131, s132, s133, s134, s135, s136, s137, s138, s139, s140, s141, s142, s143, s144, s145, s146, s147, s148, s149, s150, s151, s152, s153, s154, s155, s156, s157, s158, s159, s160, s161, s162, s163, s164, s165, s166, s167, s168, s169, s170, s171, s172, s173, s174, s175, s176, s177, s178, s179, s180, s181, s182, s183, s184, s185, s186, s187, s188, s189, s190, s191, s192, s193, s194, s195, s196, s197, s198, s199, s200, s201, s202, s203, s204, s205, s206, s207, s208, s209, s210, s211, s212, s213, s214, s215, s216, s217, s218, s219, s220, s221, s222, s223, s224, s225, s226, s227, s228, s229, s230, s231, s232, s233, s234, s235, s236, s237, s238, s239], []⟩ wb := by
  refine wp_mono ?_ hQ0
  clear hQ0
  conv => arg 2; whnf
  obtain ⟨iP0, iP1, iP2, iP3, iP4⟩ := info_parts infoPlc
  have hn4 : c.n ≤ 4 := by have := HP.n4; have := HP.hn; omega
  have hnb := HP.md.nb
  have kdr := drawn_at wb.heap.size A2 c2 l2 w wb hr2 hl2 hm2 bw bw.size (Nat.le_refl _)
  have HA := Lib.hid (And.intro HP (And.intro HF (And.intro bw (And.intro hbn hbe))))
  have HDR := Lib.hid kdr
  clear HP HF bw hr2 hl2 hm2 hbn hbe kdr
  go_upto_region 21 with (go_at_call 16; refine HDR.out.mono ?_; rintro e w2 ⟨ib, dl, rfl, nx1, hib, hdl, b1⟩; have S2 := Lib.hid ((Own.start wb).new b1 (i := .nx ib dl) nx1 (by simp [It.fp]; omega)); clear nx1 hib hdl b1)
  clear HDR
  have S3 : Own wb.heap.size wb [It.nx ib dl, .own 109 2 none 0 0 (plcs []) []] w2 := S2.out.new (i := .own 109 2 none 0 0 (plcs []) []) (Below.refl _ _) (OwnS.nil _ _ _) (by simp [It.fp])
  have HS3 := Lib.hid S3
  clear S3
  go_upto_block 2 with fail
  go_cut [19, 20] from 116 to 148 (fun o wv wx => ∃ (oth : List Plc) (Ao : Option Addr) (co : Nat) (qo : List Nat) (wt : Int), oth.length = c.n ∧ o = .slice Ao c.n co ∧ wv = .int .i64 wt ∧ wt = wsum (waitOf c.vis oth) c.n ∧ OthOk c.p c.vis oth ∧ Own wb.heap.size wb [It.nx ib dl, It.own 109 2 Ao c.n co (plcs oth) qo] wx)
  case first =>
    go_wp2_with fail
    go_loopg [19, 20, 116] c.n (fun g o wv i wx => ∃ (k : Nat) (oth : List Plc) (Ao : Option Addr) (co : Nat) (qo : List Nat) (wt : Int), g + k = c.n ∧ i = .int .i64 k ∧ oth.length = k ∧ o = .slice Ao k co ∧ wv = .int .i64 wt ∧ wt = wsum (waitOf c.vis oth) k ∧ (0 ≤ wt ∧ wt ≤ 25 * k) ∧ OthOk c.p c.vis oth ∧ Own wb.heap.size wb [It.nx ib dl, It.own 109 2 Ao k co (plcs oth) qo] wx)
    case atStart => exact ⟨0, [], none, 0, [], 0, rfl, rfl, rfl, rfl, rfl, rfl, by omega, OthOk.nil, HS3.out⟩
    case round =>
      obtain ⟨k, oth, Ao, co, qo, wt, hk, rfl, hol, rfl, rfl, hwt, hwb, hok, hO⟩ := hrel
      by_cases hlt : k < c.n
      · have hkv : k < c.vis.length := by have := HA.out.1.hn; omega
        have hE := HA.out.2.1.below hO.bel
        obtain ⟨b, off, eA, hbD, d0, d1, d2, d3⟩ := vst_at hE.VB hkv
        obtain ⟨v, hv⟩ : ∃ v, v = c.vis[k] := ⟨_, rfl⟩
        have hvo := HA.out.1.vok c.vis[k] (List.getElem_mem _)
        rw [← hv] at d0 d1 d2 d3 hvo
        have zb := World.block_lt_of_cell? _ _ d0
        obtain ⟨ar, la, sy, dr⟩ := v
        simp only at d0 d1 d2 d3 hvo zb
        have hvs : vs c.vis k = ⟨ar, la, sy, dr⟩ := by rw [vs_at hkv, ← hv]
        obtain ⟨vb, hvb⟩ : ∃ xb, xb = wr.heap.size := ⟨_, rfl⟩
        obtain ⟨X, hX⟩ : ∃ X, X = wr.alloc (.cells #[.int .i64 ar, .int .i64 la, .int .i64 sy, .int .i64 dr] 102) := ⟨_, rfl⟩
        have OX : Own wb.heap.size wb [It.nx ib dl, It.own 109 2 Ao k co (plcs oth) qo, It.blk vb (.cells #[.int .i64 ar, .int .i64 la, .int .i64 sy, .int .i64 dr] 102)] X := by rw [hX, hvb]; exact hO.alloc _
        have HX := Lib.hid OX
        have HR := Lib.hid (And.intro hol (And.intro hwt (And.intro hok (And.intro hvs eA))))
        clear OX hol hwt hok hvs hO hE hv
        rw [eA]
        go_upto_region 26 with fail
        rw [← hX, ← hvb]
        clear hX hvb d0 d1 d2 d3 zb
        refine wp_region_steps (σ := BlS) (by kernel_rfl) (by kernel_rfl) (fun sg jx vx _ => Bl26V ib dl c.pb vb c.p.bts.length c.cb c.Ab ar la sg jx vx) (fun sg ly wx => Own wb.heap.size wb [It.nx ib dl, It.own 109 2 Ao k co (plcs oth) qo, It.blk vb (.cells #[.int .i64 ar, .int .i64 la, .int .i64 sy, .int .i64 dr] 102), if ly 4 = true then It.gen [] (fun _ => 0 ≤ sg.x ∧ sg.x < c.p.bts.length) else noIt, if ly 14 = true then It.gen [] (fun _ => 0 ≤ sg.y ∧ sg.y < la - ar + 1) else noIt, if ly 17 = true then It.blk sg.b1 (.cells (if ly 18 = true then #[.int .i64 sg.x, .int .i64 (ar + sg.y)] else #[.int .i64 0, .int .i64 0]) 109) else noIt] wx) ⟨0, 0, 0, 0, none, 0, []⟩ ?_ ?_ ?_
        · exact HX.out.blank.blank.blank.drew
        · simp only [AllFrom, Nat.zero_add, Nat.reduceAdd]
          refine ⟨?_, ?_, ?_, ?_, ?_, ?_, ?_, ?_, ?_, ?_, ?_, ?_, ?_, ?_, ?_, ?_, ?_, ?_, ?_, trivial⟩
          · refine step_pure fun sg ly act wx hl hd hW hF => ?_
            have et8 := hF.old 8 (by kernel_rfl)
            simp [Act.eval] at et8
            exact ⟨hW, .func (.func 70) #[] #[.pointer (some ⟨ib, 0, none⟩), .pointer (some ⟨dl, 0, none⟩)], by go_simp, rfl⟩
          · refine step_pure fun sg ly act wx hl hd hW hF => ?_
            have et7 := hF.old 7 (by kernel_rfl)
            simp [Act.eval] at et7
            exact ⟨hW, .pointer (some ⟨c.pb, 1, none⟩), by go_simp, rfl⟩
          · refine step_pure fun sg ly act wx hl hd hW hF => ?_
            simp [Region.binds] at hd
            have et121 := hF.new 1 121 (by simp [hd]) rfl
            simp [Bl26V, Act.eval] at et121
            have hO := hW
            obtain ⟨_, cP, _, zP⟩ := (HA.out.2.1.below hO.bel).cells
            exact ⟨hW, .slice c.Ab c.p.bts.length c.cb, by go_simp, rfl⟩
          · refine step_pure fun sg ly act wx hl hd hW hF => ?_
            simp [Region.binds] at hd
            have et122 := hF.new 2 122 (by simp [hd]) rfl
            simp [Bl26V, Act.eval] at et122
            exact ⟨hW, .int .i64 c.p.bts.length, by go_simp, rfl⟩
          · refine step_call fun sg ly act wx hl hd hW hF => ?_
            simp [Region.binds] at hd
            have et120 := hF.new 0 120 (by simp [hd]) rfl
            simp [Bl26V, Act.eval] at et120
            have et123 := hF.new 3 123 (by simp [hd]) rfl
            simp [Bl26V, Act.eval] at et123
            have n16 := hF.notYet 4 16 hl (by kernel_rfl)
            have n18 := hF.notYet 4 18 hl (by kernel_rfl)
            have hO := hW
            try dsimp only at hO
            simp only [hl, n16, n18, Bool.false_eq_true, if_false, if_true] at hO
            refine ⟨70, #[.int .i64 (c.p.bts.length), .pointer (some ⟨ib, 0, none⟩), .pointer (some ⟨dl, 0, none⟩)], by go_simp, ?_⟩
            refine (next_some (c.p.bts.length) (hO.nxt 0 rfl) (by omega)).mono ?_
            rintro e w2 ⟨x, rfl, hx, nx3, k3, s3⟩
            have hN := (hO.next 0 rfl nx3 k3).newG 3 rfl (q := []) (P := fun _ => 0 ≤ x ∧ x < c.p.bts.length) (Below.refl _ _) ⟨by simp, fun _ _ _ _ => hx⟩ (by simp)
            refine ⟨.int .i64 x, { sg with x := x }, rfl, ?_, rfl, ?_⟩
            · simpa [upd, n16, n18] using hN
            · intro i u hi h
              have i4 : i ≠ 4 := by rintro rfl; rw [hl] at hi; cases hi
              have i16 : i ≠ 16 := by rintro rfl; rw [n16] at hi; cases hi
              have i18 : i ≠ 18 := by rintro rfl; rw [n18] at hi; cases hi
              unfold Bl26V at h ⊢
              split at h <;> first | exact h | exact absurd rfl i4 | exact absurd rfl i16 | exact absurd rfl i18
          · refine step_pure fun sg ly act wx hl hd hW hF => ?_
            have et22 := hF.old 22 (by kernel_rfl)
            simp [Act.eval] at et22
            exact ⟨hW, .pointer (some ⟨vb, 0, none⟩), by go_simp, rfl⟩
          · refine step_pure fun sg ly act wx hl hd hW hF => ?_
            simp [Region.binds] at hd
            have et125 := hF.new 5 125 (by simp [hd]) rfl
            simp [Bl26V, Act.eval] at et125
            have hO := hW
            try dsimp only at hO
            have hh := hO.heap 2 rfl
            have clq0 := (cell_of_heap hh 0).trans rfl
            have clq1 := (cell_of_heap hh 1).trans rfl
            have clq2 := (cell_of_heap hh 2).trans rfl
            have clq3 := (cell_of_heap hh 3).trans rfl
            have zz := heap_lt hh
            exact ⟨hW, .int .i64 ar, by go_simp, rfl⟩
          · refine step_pure fun sg ly act wx hl hd hW hF => ?_
            have et8 := hF.old 8 (by kernel_rfl)
            simp [Act.eval] at et8
            exact ⟨hW, .func (.func 70) #[] #[.pointer (some ⟨ib, 0, none⟩), .pointer (some ⟨dl, 0, none⟩)], by go_simp, rfl⟩
          · refine step_pure fun sg ly act wx hl hd hW hF => ?_
            have et22 := hF.old 22 (by kernel_rfl)
            simp [Act.eval] at et22
            exact ⟨hW, .pointer (some ⟨vb, 1, none⟩), by go_simp, rfl⟩
          · refine step_pure fun sg ly act wx hl hd hW hF => ?_
            simp [Region.binds] at hd
            have et128 := hF.new 8 128 (by simp [hd]) rfl
            simp [Bl26V, Act.eval] at et128
            have hO := hW
            try dsimp only at hO
            have hh := hO.heap 2 rfl
            have clq0 := (cell_of_heap hh 0).trans rfl
            have clq1 := (cell_of_heap hh 1).trans rfl
            have clq2 := (cell_of_heap hh 2).trans rfl
            have clq3 := (cell_of_heap hh 3).trans rfl
            have zz := heap_lt hh
            exact ⟨hW, .int .i64 la, by go_simp, rfl⟩
          · refine step_pure fun sg ly act wx hl hd hW hF => ?_
            have et22 := hF.old 22 (by kernel_rfl)
            simp [Act.eval] at et22
            exact ⟨hW, .pointer (some ⟨vb, 0, none⟩), by go_simp, rfl⟩
          · refine step_pure fun sg ly act wx hl hd hW hF => ?_
            simp [Region.binds] at hd
            have et130 := hF.new 10 130 (by simp [hd]) rfl
            simp [Bl26V, Act.eval] at et130
            have hO := hW
            try dsimp only at hO
            have hh := hO.heap 2 rfl
            have clq0 := (cell_of_heap hh 0).trans rfl
            have clq1 := (cell_of_heap hh 1).trans rfl
            have clq2 := (cell_of_heap hh 2).trans rfl
            have clq3 := (cell_of_heap hh 3).trans rfl
            have zz := heap_lt hh
            exact ⟨hW, .int .i64 ar, by go_simp, rfl⟩
          · refine step_pure fun sg ly act wx hl hd hW hF => ?_
            simp [Region.binds] at hd
            have et129 := hF.new 9 129 (by simp [hd]) rfl
            simp [Bl26V, Act.eval] at et129
            have et131 := hF.new 11 131 (by simp [hd]) rfl
            simp [Bl26V, Act.eval] at et131
            have ew := IntWalk.i64_in (la - ar) (by omega)
            exact ⟨hW, .int .i64 (la - ar), by go_simp, rfl⟩
          · refine step_pure fun sg ly act wx hl hd hW hF => ?_
            simp [Region.binds] at hd
            have et132 := hF.new 12 132 (by simp [hd]) rfl
            simp [Bl26V, Act.eval] at et132
            have ew := IntWalk.i64_in (la - ar + 1) (by omega)
            exact ⟨hW, .int .i64 (la - ar + 1), by go_simp, rfl⟩
          · refine step_call fun sg ly act wx hl hd hW hF => ?_
            simp [Region.binds] at hd
            have et127 := hF.new 7 127 (by simp [hd]) rfl
            simp [Bl26V, Act.eval] at et127
            have et133 := hF.new 13 133 (by simp [hd]) rfl
            simp [Bl26V, Act.eval] at et133
            have n15 := hF.notYet 14 15 hl (by kernel_rfl)
            have n16_15 := hF.notYet 14 15 hl (by kernel_rfl)
            have n16 := hF.notYet 15 16 n16_15 (by kernel_rfl)
            have n18 := hF.notYet 14 18 hl (by kernel_rfl)
            have hO := hW
            try dsimp only at hO
            simp only [hl, n15, n16, n18, Bool.false_eq_true, if_false, if_true] at hO
            refine ⟨70, #[.int .i64 (la - ar + 1), .pointer (some ⟨ib, 0, none⟩), .pointer (some ⟨dl, 0, none⟩)], by go_simp, ?_⟩
            refine (next_some (la - ar + 1) (hO.nxt 0 rfl) (by omega)).mono ?_
            rintro e w2 ⟨x, rfl, hx, nx3, k3, s3⟩
            have hN := (hO.next 0 rfl nx3 k3).newG 4 rfl (q := []) (P := fun _ => 0 ≤ x ∧ x < la - ar + 1) (Below.refl _ _) ⟨by simp, fun _ _ _ _ => hx⟩ (by simp)
            refine ⟨.int .i64 x, { sg with y := x }, rfl, ?_, rfl, ?_⟩
            · simpa [upd, n15, n16, n18] using hN
            · intro i u hi h
              have i14 : i ≠ 14 := by rintro rfl; rw [hl] at hi; cases hi
              have i15 : i ≠ 15 := by rintro rfl; rw [n15] at hi; cases hi
              have i16 : i ≠ 16 := by rintro rfl; rw [n16] at hi; cases hi
              have i18 : i ≠ 18 := by rintro rfl; rw [n18] at hi; cases hi
              unfold Bl26V at h ⊢
              split at h <;> first | exact h | exact absurd rfl i14 | exact absurd rfl i15 | exact absurd rfl i16 | exact absurd rfl i18
          · refine step_pure fun sg ly act wx hl hd hW hF => ?_
            simp [Region.binds] at hd
            have et126 := hF.new 6 126 (by simp [hd]) rfl
            simp [Bl26V, Act.eval] at et126
            have et134 := hF.new 14 134 (by simp [hd]) rfl
            simp [Bl26V, Act.eval] at et134
            have y14 : ly 14 = true := by simp [hd]
            have hO := hW
            try dsimp only at hO
            simp only [y14, Bool.false_eq_true, if_false, if_true] at hO
            have hb : 0 ≤ sg.y ∧ sg.y < la - ar + 1 := hO.thing 4 rfl
            have ew := IntWalk.i64_in (ar + sg.y) (by omega)
            exact ⟨hW, .int .i64 (ar + sg.y), by go_simp, rfl⟩
          · refine step_pure fun sg ly act wx hl hd hW hF => ?_
            simp [Region.binds] at hd
            have et124 := hF.new 4 124 (by simp [hd]) rfl
            simp [Bl26V, Act.eval] at et124
            have et135 := hF.new 15 135 (by simp [hd]) rfl
            simp [Bl26V, Act.eval] at et135
            exact ⟨hW, .agg #[.int .i64 sg.x, .int .i64 (ar + sg.y)], by go_simp, rfl⟩
          · refine step_run fun sg ly act wx hl hd hW hF => ?_
            have n18 := hF.notYet 17 18 hl (by kernel_rfl)
            have hO := hW
            try dsimp only at hO
            simp only [hl, n18, Bool.false_eq_true, if_false, if_true] at hO
            refine ⟨_, wx.alloc (.cells #[.int .i64 0, .int .i64 0] 109), { sg with b1 := wx.heap.size }, by go_simp, ?_, rfl, ?_⟩
            · have hN := hO.newB 5 rfl (.cells #[.int .i64 0, .int .i64 0] 109)
              simpa [upd, n18] using hN
            · intro i u hi h
              have i17 : i ≠ 17 := by rintro rfl; rw [hl] at hi; cases hi
              have i18 : i ≠ 18 := by rintro rfl; rw [n18] at hi; cases hi
              unfold Bl26V at h ⊢
              split at h <;> first | exact h | exact absurd rfl i17 | exact absurd rfl i18
          · refine step_store rfl fun sg ly act wx hl hd hW hF => ?_
            simp [Region.binds] at hd
            have et23 := hF.new 17 23 (by simp [hd]) rfl
            simp [Bl26V, Act.eval] at et23
            have et136 := hF.new 16 136 (by simp [hd]) rfl
            simp [Bl26V, Act.eval] at et136
            have y17 : ly 17 = true := by simp [hd]
            have hO := hW
            try dsimp only at hO
            simp only [hl, y17, Bool.false_eq_true, if_false, if_true] at hO
            have hh := hO.heap 5 rfl
            have clq0 := (cell_of_heap hh 0).trans rfl
            have flq0 := frozen_of_heap hh 0
            have clq1 := (cell_of_heap hh 1).trans rfl
            have flq1 := frozen_of_heap hh 1
            have zz := heap_lt hh
            refine ⟨((wx.setCell ⟨sg.b1, 0, none⟩ (.int .i64 sg.x)).setCell ⟨sg.b1, 1, none⟩ (.int .i64 (ar + sg.y))), sg, .skip, by go_simp, .inl rfl, ?_, fun _ _ _ h => h⟩
            have hN := hO.set 5 rfl (((Keep.refl _ _).setCell (.inl (by simp)) (.int .i64 sg.x)).setCell (.inl (by simp)) (.int .i64 (ar + sg.y))) (heap_set (heap_set (hh) 0 (.int .i64 sg.x)) 1 (.int .i64 (ar + sg.y)))
            simpa [upd, y17, hl] using hN
        intro sg af w8 hWW hF
        have e23 := hF.new 17 23 (by decide) rfl
        obtain ⟨ff, hf, rfl⟩ := hF.lit
        obtain ⟨x, y, b1, b2, Aq, cq, qq⟩ := sg
        rw [← hf] at e23
        simp only [Bl26V] at e23
        have O8 : Own wb.heap.size wb [It.nx ib dl, It.own 109 2 Ao k co (plcs oth) qo, It.blk vb (.cells #[.int .i64 ar, .int .i64 la, .int .i64 sy, .int .i64 dr] 102), if (fun j => decide (j < List.length (_ : List Oper))) 4 = true then It.gen [] (fun _ => 0 ≤ (BlS.mk x y b1 b2 Aq cq qq).x ∧ (BlS.mk x y b1 b2 Aq cq qq).x < c.p.bts.length) else noIt, if (fun j => decide (j < List.length (_ : List Oper))) 14 = true then It.gen [] (fun _ => 0 ≤ (BlS.mk x y b1 b2 Aq cq qq).y ∧ (BlS.mk x y b1 b2 Aq cq qq).y < la - ar + 1) else noIt, if (fun j => decide (j < List.length (_ : List Oper))) 17 = true then It.blk (BlS.mk x y b1 b2 Aq cq qq).b1 (.cells (if (fun j => decide (j < List.length (_ : List Oper))) 18 = true then #[.int .i64 (BlS.mk x y b1 b2 Aq cq qq).x, .int .i64 (ar + (BlS.mk x y b1 b2 Aq cq qq).y)] else #[.int .i64 0, .int .i64 0]) 109) else noIt] w8 := hWW
        simp only [List.length_cons, List.length_nil, Nat.reduceAdd, Nat.reduceLT, decide_true, if_true] at O8
        have hx : 0 ≤ x ∧ x < c.p.bts.length := O8.thing 3 rfl
        have hy : 0 ≤ y ∧ y < la - ar + 1 := O8.thing 4 rfl
        have hb1 := O8.heap 5 rfl
        have g0 : w8.cell? ⟨b1, 0, none⟩ = some (.int .i64 x) := (cell_of_heap hb1 0).trans rfl
        have g1 : w8.cell? ⟨b1, 1, none⟩ = some (.int .i64 (ar + y)) := (cell_of_heap hb1 1).trans rfl
        have zg := heap_lt hb1
        have OB : OwnS w8 109 2 Ao k co (plcs oth) qo := O8.owns 1 rfl
        have H8 := Lib.hid (And.intro O8 OB)
        clear hWW hF hf O8 hb1 OB
        simp only [List.filterMap, List.foldl, List.setIfInBounds_toArray, List.set_cons_succ, List.set_cons_zero, e23]
        clear e23
        go_wp2_with (at_builtin
                     (
                       refine wpList_append_S (size := 2) rfl (.tmp 137) (.tmp 139) 103 rfl iP0 _ 16 Try.underlying103 iP1 iP2 iP3 (by decide) iP4 rfl (A := Ao) (n := k) (c := co) (xs := plcs oth) (fp := qo) (by simp [Act.eval]) ⟨w8.heap.size, 0, none⟩ (by simp [Act.eval]) [.int .i64 x, .int .i64 (ar + y)] (H8.out.2.alloc _) rfl ?_ (by simp [Value.oneCell']) (by omega) (by omega) ?_
                       · intro i v hv
                         rw [show (⟨w8.heap.size, 0, none⟩ : Addr).add i = ⟨w8.heap.size, i, none⟩ from by simp [Addr.add]; omega, World.cell?_alloc_new]
                         simpa using hv
                       intro g c' w10 q1 q2 q3 q4
                       have SA := H8.out.1.below ((Below.refl w8.heap.size w8).alloc (Nat.le_refl _) (.cells #[.int .i64 x, .int .i64 (ar + y)] 109))
                       have SB := SA.upd 1 rfl (i' := .own 109 2 (some ⟨g, 0, none⟩) (k + 1) c' (plcs oth ++ plc ⟨x, ar + y⟩) [g]) q4 q1 (fun x hx => by rw [List.mem_singleton.1 hx]; rcases q2 with e | e; exact .inl e; exact .inr (Nat.le_of_eq e))
                       have h5 := SB.heap 5 rfl
                       have h2 := SB.heap 2 rfl
                       have u1 : w10.cell? ⟨b1, 1, none⟩ = some (.int .i64 (ar + y)) := (cell_of_heap h5 1).trans rfl
                       have u0 : w10.cell? ⟨vb, 0, none⟩ = some (.int .i64 ar) := (cell_of_heap h2 0).trans rfl
                       have z5 := heap_lt h5
                       have z2 := heap_lt h2
                       have HSB := Lib.hid SB
                       clear SA SB h5 h2 q1 q2 q3 q4))
        rw [← HR.out.2.2.2.2]
        go_roundg (gk - 1)
        case measure => omega
        case rel =>
          refine ⟨k + 1, oth ++ [⟨x, ar + y⟩], some ⟨g, 0, none⟩, c', [g], wt + (ar + y - ar), by omega, by go_num, by rw [List.length_append, HR.out.1]; rfl, rfl, rfl, ?_, by omega, ?_, ?_⟩
          · have h := waits_snoc c.vis oth ⟨x, ar + y⟩
            rw [HR.out.1, HR.out.2.2.2.1, ← HR.out.2.1] at h
            exact h.symm
          · exact HR.out.2.2.1.snoc (by rw [HR.out.1, HR.out.2.2.2.1]; simp only; omega)
          · have e : plcs oth ++ plc ⟨x, ar + y⟩ = plcs (oth ++ [⟨x, ar + y⟩]) := (flat_snoc _ _ _).symm
            have h := HSB.out.take 2
            simp only [e] at h
            exact h
      · obtain rfl : k = c.n := by omega
        have HR := Lib.hid (And.intro hol (And.intro hwt (And.intro hok hO)))
        clear hol hwt hok hO
        go_wp2_with fail
        go_meet
        exact ⟨oth, Ao, co, qo, wt, HR.out.1, rfl, rfl, HR.out.2.1, HR.out.2.2.1, HR.out.2.2.2⟩
  case rest =>
    obtain ⟨oth, Ao, co, qo, wt, hol, rfl, rfl, hwt, hok, hO⟩ := hcut
    have HR := Lib.hid (And.intro hol (And.intro hwt (And.intro hok hO)))
    clear hol hwt hok hO
    apply_assumption
    refine best_z HA.out.1 HA.out.2.1 HA.out.2.2.1 HR.out.2.2.2 HR.out.1 HR.out.2.2.1 HA.out.2.2.2.1 HA.out.2.2.2.2 (by rw [← HA.out.1.hn]; exact HR.out.2.1) ?_
    intro _ _ _ h
    exact h
end Go.Proofs.Ythmldeningpjbaa
