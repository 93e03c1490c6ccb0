/- port.CheckPlan: a round over the calls (printed by wip/tools/ptplanb.py) -/
import Derived.Test.YthmldeningpjbaaPBp7
import Derived.WalkKit
set_option linter.unusedVariables false
set_option linter.unusedSimpArgs false
namespace Go.Proofs.Ythmldeningpjbaa
open Go Go.RowKit Go.WideMaps Sp Pt
set_option linter.unusedVariables false
set_option linter.unusedSimpArgs false

section
variable {W w : World} {mb tb wb H : Nat} {t : Tly}
theorem PlSt.alloc (h : PlSt W w mb tb wb H t) (o : Obj) : PlSt W (w.alloc o) mb tb wb H t :=
  ⟨h.kp.alloc o, heap_alloc' h.tg o, h.tl, heap_alloc' h.wg o, h.wl, h.mp.of_heap (Below.heap_alloc _ _ _ h.mp.lt)⟩
theorem PlSt.tug (h : PlSt W w mb tb wb H t) {k : Nat} (x : Int) (hk : k < H) (hn : mb ≠ tb ∧ tb ≠ wb) : PlSt W (w.setCell ⟨tb, k, none⟩ (.int .i64 x)).drew mb tb wb H ⟨setI t.tugs k x, t.twice, t.hits⟩ := by
  refine ⟨(h.kp.setCell (.inl (by simp)) _).drew, ?_, ?_, ?_, h.wl, ?_⟩
  · have := heap_set h.tg k (.int .i64 x)
    show (w.setCell ⟨tb, k, none⟩ (.int .i64 x)).heap[tb]? = _
    rw [this]
    congr 2
    apply Array.ext'
    simp [ints, setI, List.map_set]
  · simp [setI, h.tl]
  · exact (Below.heap_setCell _ _ _ wb (by simp; omega)).trans h.wg
  · exact h.mp.of_heap (Below.heap_setCell _ _ _ mb (by simp; omega))
theorem PlSt.start (h : PlSt W w mb tb wb H t) : PlSt w w mb tb wb H t := ⟨Keep.refl _ _, h.tg, h.tl, h.wg, h.wl, h.mp⟩
theorem PlSt.after {w' : World} {t' : Tly} (h : PlSt W w mb tb wb H t) (h' : PlSt w w' mb tb wb H t') : PlSt W w' mb tb wb H t' := ⟨h.kp.trans h'.kp (by simp), h'.tg, h'.tl, h'.wg, h'.wl, h'.mp⟩
end
theorem hits_hit1 (h : Int) (t : Tly) (l : List Int) : (l.foldl (hit1 h) t).hits.length = t.hits.length + l.length := by
  induction l generalizing t with
  | nil => rfl
  | cons n l ih => rw [List.foldl_cons, ih, List.length_cons]; simp [hit1]; omega

set_option linter.unusedVariables false
def PgV (W0 : World) (tb xb k H : Nat) (x tg : Int) : Nat → Value → Prop
  | 0, v => v = .slice (some ⟨tb, 0, none⟩) H H
  | 1, v => v = .pointer (some ⟨xb, 0, none⟩)
  | 2, v => v = .int .i64 k
  | 3, v => v = .pointer (some ⟨tb, k, none⟩)
  | 4, v => v = .int .i64 x
  | 5, v => v = .pointer (some ⟨xb, 5, none⟩)
  | 6, v => v = .int .i64 tg
  | 7, v => v = .int .i64 (x + tg)
  | 8, v => v = .pointer (some ⟨tb, k, none⟩)
  | _, _ => True
def PgW (W0 : World) (tb xb k H : Nat) (x tg : Int) (l : Nat → Bool) (w : World) : Prop := if l 9 then w = (W0.setCell ⟨tb, k, none⟩ (.int .i64 (x + tg))).drew else w = W0.drew
set_option maxRecDepth 100000 in
set_option maxHeartbeats 4000000 in
theorem plOut {W0 wr : World} {mb tb wb pb H L cl i D : Nat} {Al Ac Ab : Option Addr} {cc cb : Nat} {pr : Prt} {t : Tly} {cs : List Cal} (S : PlSt W0 wr mb tb wb H t) (hp : W0.heap[pb]? = some (.cells (prtV Ac cc Ab cb pr) 26 (0, 0))) (hpn : pb ∉ [mb, tb, wb]) (hb : BtsB D W0 Ab pr.bts) (hD : D ≤ mb ∧ D ≤ tb ∧ D ≤ wb ∧ D ≤ W0.heap.size) (hcs : RdB D W0 6 Al L (cacs cs)) (hL : cs.length = L) (hi : i < L) (hL2 : L ≤ 1000)
    (hc : 0 ≤ (cs.getD i default).berth ∧ (cs.getD i default).berth < pr.bts.length ∧ 0 ≤ (cs.getD i default).hour ∧ (cs.getD i default).hour < H ∧ -1000 ≤ (cs.getD i default).tugs ∧ (cs.getD i default).tugs ≤ 1000) (hpt : ∀ b ∈ pr.bts, b.path.length ≤ 1000 ∧ ∀ y ∈ b.path, -1000 ≤ y ∧ y ≤ 1000) (hbl : pr.bts.length ≤ 1000) (hH : H ≤ 1000) (hN : t.hits.length ≤ 90000) (htg : ∀ k, -1000000 ≤ getI t.tugs k ∧ getI t.tugs k ≤ 1000000) (hne : mb ≠ tb ∧ mb ≠ wb ∧ tb ≠ wb) {s0 s1 s3 s4 s5 s6 s7 s8 s9 s10 s11 s15 s16 s17 s18 s19 s20 s21 s22 s23 s24 s25 s26 s27 s28 s29 s30 s31 s32 s33 s34 s35 s36 s37 s38 s39 s40 s41 s42 s43 s44 s45 s46 s47 s48 s49 s50 s51 s52 s53 s54 s55 s56 s57 s58 s59 s60 s61 s62 s63 s64 s65 s66 s67 s68 s69 s70 s71 s72 s73 s74 s75 s76 s77 s78 s79 s80 s81 s82 s83 s84 s85 s86 s87 s88 s89 s90 s91 s92 s93 s94 s95 s96 s97 s98 s99 s103 s104 s105 s106 s107 s108 s109 s110 s111 s112 s113 s114 s115 s116 s117 s118 s119 s120 s121 s122 s123 s124 s125 s126 s127 s128 s129 s130 s131 s132 s133 s134 s135 s136 s137 s138 s139 s140 s141 s142 s143 s144 s145 s146 s147 s148 s149 s150 s151 s152 s153 s154 s155 s156 s157 s158 s159 s160 s161 s162 s163 s164 s165 s166 s167 s168 s169 s170 s171 s172 s173 s174 s175 s176 s177 s178 s179 s180 s181 s182 s183 s184 s185 s186 s187 s188 s189 s190 : Value} {Q0 : Exit → Act → World → Prop} {Inv : Act → World → Prop}
    (hInv : ∀ (t16 t18 t103 t104 t105 t106 t107 t108 t109 t110 t111 t112 t113 t114 t115 t116 t117 t118 t119 t120 t121 t122 t123 t124 t125 t126 t127 t128 t129 t130 t131 t132 t133 t134 t135 t136 t137 t138 t139 t140 t141 t142 t143 t144 t145 t146 t147 t148 t149 t150 t151 t152 t153 t154 t155 : Value)  (w' : World), PlSt W0 w' mb tb wb H (tlyCall pr t (cs.getD i default)) → Inv ⟨#[s0, s1, .pointer (some ⟨pb, 0, none⟩), s3, s4, s5, s6, s7, s8, s9, s10, s11, .map (some mb), .slice (some ⟨tb, 0, none⟩) H H, .slice (some ⟨wb, 0, none⟩) H H, s15, t16, s17, t18, s19, s20, s21, s22, s23, s24, s25, s26, s27, s28, s29, s30, s31, s32, s33, s34, s35, s36, s37, s38, s39, s40, s41, s42, s43, s44, s45, s46, s47, s48, s49, s50, s51, s52, s53, s54, s55, s56, s57, s58, s59, s60, s61, s62, s63, s64, s65, s66, s67, s68, s69, s70, s71, s72, s73, s74, s75, s76, s77, s78, s79, s80, s81, s82, s83, s84, s85, s86, s87, s88, s89, s90, s91, s92, s93, s94, s95, s96, s97, s98, s99, .slice Al L cl, .int .i64 L, .int .i64 ((i + 1 : Nat) : Int), t103, t104, t105, t106, t107, t108, t109, t110, t111, t112, t113, t114, t115, t116, t117, t118, t119, t120, t121, t122, t123, t124, t125, t126, t127, t128, t129, t130, t131, t132, t133, t134, t135, t136, t137, t138, t139, t140, t141, t142, t143, t144, t145, t146, t147, t148, t149, t150, t151, t152, t153, t154, t155, s156, s157, s158, s159, s160, s161, s162, s163, s164, s165, s166, s167, s168, s169, s170, s171, s172, s173, s174, s175, s176, s177, s178, s179, s180, s181, s182, s183, s184, s185, s186, s187, s188, s189, s190], []⟩ w') :
    Code.wp Try.prog (loopBody Try.f52 2) (Exit.then Inv Q0) ⟨#[s0, s1, .pointer (some ⟨pb, 0, none⟩), s3, s4, s5, s6, s7, s8, s9, s10, s11, .map (some mb), .slice (some ⟨tb, 0, none⟩) H H, .slice (some ⟨wb, 0, none⟩) H H, s15, s16, s17, s18, s19, s20, s21, s22, s23, s24, s25, s26, s27, s28, s29, s30, s31, s32, s33, s34, s35, s36, s37, s38, s39, s40, s41, s42, s43, s44, s45, s46, s47, s48, s49, s50, s51, s52, s53, s54, s55, s56, s57, s58, s59, s60, s61, s62, s63, s64, s65, s66, s67, s68, s69, s70, s71, s72, s73, s74, s75, s76, s77, s78, s79, s80, s81, s82, s83, s84, s85, s86, s87, s88, s89, s90, s91, s92, s93, s94, s95, s96, s97, s98, s99, .slice Al L cl, .int .i64 L, .int .i64 i, s103, s104, s105, s106, s107, s108, s109, s110, s111, s112, s113, s114, s115, s116, s117, s118, s119, s120, s121, s122, s123, s124, s125, s126, s127, s128, s129, s130, s131, s132, s133, s134, s135, s136, s137, s138, s139, s140, s141, s142, s143, s144, s145, s146, s147, s148, s149, s150, s151, s152, s153, s154, s155, s156, s157, s158, s159, s160, s161, s162, s163, s164, s165, s166, s167, s168, s169, s170, s171, s172, s173, s174, s175, s176, s177, s178, s179, s180, s181, s182, s183, s184, s185, s186, s187, s188, s189, s190], []⟩ wr := by
  conv => arg 2; whnf
  obtain ⟨bt0, bt1, hr0, hr1, tg0, tg1⟩ := hc
  have hg : cs[i]'(by omega) = cs.getD i default := by simp [List.getD_eq_getElem?_getD, List.getElem?_eq_getElem (show i < cs.length by omega)]
  generalize cs.getD i default = x0 at *
  obtain ⟨bc, oc, rfl, hbc, hcc⟩ := hcs.2 (by omega)
  obtain ⟨g0, g1, g2, g3, g4, g5⟩ := cacs_get (l := cs) (k := i) (by omega)
  rw [hg] at g0 g1 g2 g3 g4 g5
  have hnD : ∀ b, b < D → b ∉ [mb, tb, wb] := fun b h => by simp; omega
  have cw : ∀ {o : Nat} {u : Value}, W0.cell? ⟨bc, o, none⟩ = some u → wr.cell? ⟨bc, o, none⟩ = some u := fun h => S.kp.cell h (hnD _ hbc)
  obtain ⟨ho, be, ou, dr, mo, tg⟩ := x0
  simp only at bt0 bt1 hr0 hr1 tg0 tg1 g0 g1 g2 g3 g4 g5
  obtain ⟨k, rfl⟩ := Int.eq_ofNat_of_zero_le hr0
  obtain ⟨m, rfl⟩ := Int.eq_ofNat_of_zero_le bt0
  have hk : k < H := by omega
  have hm : m < pr.bts.length := by omega
  have c0 := cw (hcc _ _ g0)
  have c1 : wr.cell? ⟨bc, oc + i * 6 + 1, none⟩ = _ := cw (hcc _ _ g1)
  have c2 : wr.cell? ⟨bc, oc + i * 6 + 2, none⟩ = _ := cw (hcc _ _ g2)
  have c3 : wr.cell? ⟨bc, oc + i * 6 + 3, none⟩ = _ := cw (hcc _ _ g3)
  have c4 : wr.cell? ⟨bc, oc + i * 6 + 4, none⟩ = _ := cw (hcc _ _ g4)
  have c5 : wr.cell? ⟨bc, oc + i * 6 + 5, none⟩ = _ := cw (hcc _ _ g5)
  have zc := World.block_lt_of_cell? _ _ c0
  obtain ⟨W2, hW2⟩ : ∃ W2, W2 = wr.alloc (.cells #[.int .i64 k, .int .i64 m, .bool ou, .int .i64 dr, .int .i64 mo, .int .i64 tg] 55) := ⟨_, rfl⟩
  obtain ⟨xb, hxb⟩ : ∃ xb, xb = wr.heap.size := ⟨_, rfl⟩
  have hxh : W2.heap[xb]? = some (.cells #[.int .i64 k, .int .i64 m, .bool ou, .int .i64 dr, .int .i64 mo, .int .i64 tg] 55 (0, 0)) := by rw [hW2, hxb]; exact heap_alloc_new _ _
  have S2 : PlSt W0 W2 mb tb wb H t := by rw [hW2]; exact S.alloc _
  have hxn : xb ∉ [mb, tb, wb] := by have := S.mp.lt; have := heap_lt S.tg; have := heap_lt S.wg; simp; omega
  obtain ⟨x, hx⟩ : ∃ x, x = getI t.tugs k := ⟨_, rfl⟩
  have hxr := htg k
  rw [← hx] at hxr
  have e1 : W2.cell? ⟨tb, k, none⟩ = some (.int .i64 x) := by rw [cell_of_heap S2.tg, List.getElem?_toArray, ints_get (by rw [S2.tl]; exact hk), hx]; simp [getI]
  have HE := Lib.hid (And.intro ((cell_of_heap hxh 0).trans rfl) (And.intro ((cell_of_heap hxh 5).trans rfl) (And.intro e1 (And.intro (frozen_of_heap S2.tg k) (And.intro (heap_lt hxh) (heap_lt S2.tg))))))
  have HI := Lib.hid hInv
  have HS := Lib.hid (And.intro S2 (And.intro hxh (And.intro hxn hx)))
  have HP := Lib.hid (And.intro hp (And.intro hpn (And.intro hb (And.intro hD (And.intro hpt hnD)))))
  have HN := Lib.hid hne
  have n1 : (i : Int) < (L : Int) := by omega
  clear hInv S S2 hxh hxn hx hp hpn hb hpt hnD hcs hcc cw g0 g1 g2 g3 g4 g5 e1 htg hne hg
  go_upto_region 30 with fail
  rw [← hW2, ← hxb]
  clear hW2 hxb c0 c1 c2 c3 c4 c5 zc
  have k1 : (0 : Int) ≤ (k : Int) := by omega
  have k2 : (k : Int) < (H : Int) := by omega
  refine wp_region_steps (σ := Unit) (by kernel_rfl) (by kernel_rfl) (fun _ jx vx _ => PgV W2 tb xb k H x tg jx vx) (fun _ ly wx => PgW W2 tb xb k H x tg ly wx) () ?_ ?_ ?_
  · exact (by unfold PgW; rw [if_neg (by simp)])
  · simp only [AllFrom, Nat.zero_add, Nat.reduceAdd]
    refine ⟨?_, ?_, ?_, ?_, ?_, ?_, ?_, ?_, ?_, ?_, trivial⟩
    · refine step_pure fun sg ly a wr hl hd hW hF => ?_
      have et13 := hF.old 13 (by kernel_rfl)
      simp [Act.eval] at et13
      exact ⟨by simpa [PgW, upd] using hW, .slice (some ⟨tb, 0, none⟩) H H, by go_simp, rfl⟩
    · refine step_pure fun sg ly a wr hl hd hW hF => ?_
      have et16 := hF.old 16 (by kernel_rfl)
      simp [Act.eval] at et16
      exact ⟨by simpa [PgW, upd] using hW, .pointer (some ⟨xb, 0, none⟩), by go_simp, rfl⟩
    · refine step_pure fun sg ly a wr hl hd hW hF => ?_
      simp [Region.binds] at hd
      have et107 := hF.new 1 107 (by simp [hd]) rfl
      simp [PgV, Act.eval] at et107
      have n9_8 := hF.notYet 2 8 hl (by kernel_rfl)
      have n9 := hF.notYet 8 9 n9_8 (by kernel_rfl)
      have hW' := hW
      unfold PgW at hW'
      rw [if_neg (by simp [n9])] at hW'
      subst hW'
      obtain ⟨d0, d5, e1, q1, zx, zt⟩ := HE.out
      exact ⟨by unfold PgW; rw [if_neg (by simp [upd, n9])], _, by go_simp, rfl⟩
    · refine step_pure fun sg ly a wr hl hd hW hF => ?_
      simp [Region.binds] at hd
      have et106 := hF.new 0 106 (by simp [hd]) rfl
      simp [PgV, Act.eval] at et106
      have et108 := hF.new 2 108 (by simp [hd]) rfl
      simp [PgV, Act.eval] at et108
      exact ⟨by simpa [PgW, upd] using hW, .pointer (some ⟨tb, k, none⟩), by go_simp, rfl⟩
    · refine step_pure fun sg ly a wr hl hd hW hF => ?_
      simp [Region.binds] at hd
      have et109 := hF.new 3 109 (by simp [hd]) rfl
      simp [PgV, Act.eval] at et109
      have n9_7 := hF.notYet 4 7 hl (by kernel_rfl)
      have n9 := hF.notYet 7 9 n9_7 (by kernel_rfl)
      have hW' := hW
      unfold PgW at hW'
      rw [if_neg (by simp [n9])] at hW'
      subst hW'
      obtain ⟨d0, d5, e1, q1, zx, zt⟩ := HE.out
      exact ⟨by unfold PgW; rw [if_neg (by simp [upd, n9])], _, by go_simp, rfl⟩
    · refine step_pure fun sg ly a wr hl hd hW hF => ?_
      have et16 := hF.old 16 (by kernel_rfl)
      simp [Act.eval] at et16
      exact ⟨by simpa [PgW, upd] using hW, .pointer (some ⟨xb, 5, none⟩), by go_simp, rfl⟩
    · refine step_pure fun sg ly a wr hl hd hW hF => ?_
      simp [Region.binds] at hd
      have et111 := hF.new 5 111 (by simp [hd]) rfl
      simp [PgV, Act.eval] at et111
      have n9_7 := hF.notYet 6 7 hl (by kernel_rfl)
      have n9 := hF.notYet 7 9 n9_7 (by kernel_rfl)
      have hW' := hW
      unfold PgW at hW'
      rw [if_neg (by simp [n9])] at hW'
      subst hW'
      obtain ⟨d0, d5, e1, q1, zx, zt⟩ := HE.out
      exact ⟨by unfold PgW; rw [if_neg (by simp [upd, n9])], _, by go_simp, rfl⟩
    · refine step_pure fun sg ly a wr hl hd hW hF => ?_
      simp [Region.binds] at hd
      have et110 := hF.new 4 110 (by simp [hd]) rfl
      simp [PgV, Act.eval] at et110
      have et112 := hF.new 6 112 (by simp [hd]) rfl
      simp [PgV, Act.eval] at et112
      have ew := IntWalk.i64_in (x + tg) (by omega)
      exact ⟨by simpa [PgW, upd] using hW, .int .i64 (x + tg), by go_simp, rfl⟩
    · refine step_pure fun sg ly a wr hl hd hW hF => ?_
      simp [Region.binds] at hd
      have et106 := hF.new 0 106 (by simp [hd]) rfl
      simp [PgV, Act.eval] at et106
      have et108 := hF.new 2 108 (by simp [hd]) rfl
      simp [PgV, Act.eval] at et108
      exact ⟨by simpa [PgW, upd] using hW, .pointer (some ⟨tb, k, none⟩), by go_simp, rfl⟩
    · refine step_store rfl fun sg ly a wr hl hd hW hF => ?_
      simp [Region.binds] at hd
      have et114 := hF.new 8 114 (by simp [hd]) rfl
      simp [PgV, Act.eval] at et114
      have et113 := hF.new 7 113 (by simp [hd]) rfl
      simp [PgV, Act.eval] at et113
      have hW' := hW
      unfold PgW at hW'
      rw [if_neg (by simp [hl])] at hW'
      subst hW'
      obtain ⟨d0, d5, e1, q1, zx, zt⟩ := HE.out
      refine ⟨(W2.setCell ⟨tb, k, none⟩ (.int .i64 (x + tg))).drew, (), .skip, by go_simp, .inl rfl, by unfold PgW; rw [if_pos (by simp [upd])], fun _ _ _ h => h⟩
  intro _ a w3 hWW hF
  obtain ⟨f3, hf3, rfl⟩ := hF.lit
  have hw3 : w3 = (W2.setCell ⟨tb, k, none⟩ (.int .i64 (x + tg))).drew := by
    have h5 := hWW
    unfold PgW at h5
    rwa [if_pos (by simp)] at h5
  have S3 : PlSt W0 w3 mb tb wb H ⟨setI t.tugs k (x + tg), t.twice, t.hits⟩ := by rw [hw3]; exact HS.out.1.tug _ hk ⟨HN.out.1, HN.out.2.2⟩
  have hx3 : w3.heap[xb]? = some (.cells #[.int .i64 k, .int .i64 m, .bool ou, .int .i64 dr, .int .i64 mo, .int .i64 tg] 55 (0, 0)) := by
    rw [hw3]
    exact (Below.heap_setCell _ _ _ xb (by have := HS.out.2.2.1; simp at this ⊢; omega)).trans HS.out.2.1
  clear hf3 hF hWW hw3 HE
  simp only [List.filterMap, List.foldl, List.setIfInBounds_toArray, List.set_cons_succ, List.set_cons_zero]
  have hp3 := (S3.kp.block pb (heap_lt HP.out.1) HP.out.2.1).trans HP.out.1
  obtain ⟨bk, ob, Ak, ck, rfl, hbk, b1, b2, b3⟩ := HP.out.2.2.1 m hm
  obtain ⟨pth, hpth⟩ : ∃ q, q = pr.bts[m].path := ⟨_, rfl⟩
  rw [← hpth] at b2 b3
  have p1 : w3.cell? ⟨pb, 1, none⟩ = some (.slice (some ⟨bk, ob, none⟩) pr.bts.length cb) := (cell_of_heap hp3 1).trans rfl
  have x1 : w3.cell? ⟨xb, 1, none⟩ = some (.int .i64 m) := (cell_of_heap hx3 1).trans rfl
  have x0 : w3.cell? ⟨xb, 0, none⟩ = some (.int .i64 k) := (cell_of_heap hx3 0).trans rfl
  have q2 := S3.kp.cell b2 (HP.out.2.2.2.2.2 _ hbk)
  have zp := heap_lt hp3
  have zx := heap_lt hx3
  have zb := World.block_lt_of_cell? _ _ q2
  have m1 : (0 : Int) ≤ (m : Int) := by omega
  have m2 : (m : Int) < (pr.bts.length : Int) := by omega
  have hpl := (HP.out.2.2.2.2.1 _ (List.getElem_mem hm)).1
  have hpy := (HP.out.2.2.2.2.1 _ (List.getElem_mem hm)).2
  rw [← hpth] at hpl hpy
  have hbtm : bt pr (m : Int) = pr.bts[m] := by simp [bt, hm]
  have H3 := Lib.hid (And.intro S3 (And.intro hx3 (And.intro b3 (And.intro hpth (And.intro hpy hbtm)))))
  have X3 := Lib.hid x0
  clear S3 hx3 hp3 b1 b2 b3 hpth hpy hbtm x0
  go_wp2_with fail
  go_loopw [123] (fun q wq => ∃ j : Nat, j ≤ pth.length ∧ q = .int .i64 j ∧ PlSt w3 wq mb tb wb H ((pth.take j).foldl (hit1 k) ⟨setI t.tugs k (x + tg), t.twice, t.hits⟩)) (fun q _ => pth.length - (intOf q).toNat)
  case atStart => exact ⟨0, Nat.zero_le _, rfl, H3.out.1.start⟩
  case round =>
    obtain ⟨j, hj, rfl, hS⟩ := hrel
    by_cases hlt : j < pth.length
    · obtain ⟨pk, pq, rfl, hpk, hpc⟩ := H3.out.2.2.1.1.2 (by omega)
      have hcell := H3.out.1.kp.cell (hpc j _ (ints_get hlt)) (HP.out.2.2.2.2.2 _ hpk)
      have hy := H3.out.2.2.2.2.1 (pth.getD j 0) (by rw [List.getD_eq_getElem?_getD, List.getElem?_eq_getElem hlt]; exact List.getElem_mem hlt)
      refine plIn (n := pth.getD j 0) (h := k) hS X3.out HS.out.2.2.1 hcell (HP.out.2.2.2.2.2 _ hpk) ⟨k1, k2⟩ hH (by rw [hits_hit1, List.length_take]; simp only; omega) hlt hpl hy HN.out ?_
      intro _ _ _ _ _ _ _ _ _ _ _ _ _ _ _ _ _ _ _ _ _ _ _ _ _ _ _ _ _ _ _ _ w' hr
      refine ⟨?_, by simp [intOf]; omega⟩
      repeat apply Exists.intro
      refine ⟨?_, rfl⟩
      refine ⟨j + 1, by omega, by go_num, ?_⟩
      have e0 : (pth.take (j + 1)) = pth.take j ++ [pth.getD j 0] := by rw [List.take_succ_eq_append_getElem hlt, List.getD_eq_getElem?_getD, List.getElem?_eq_getElem hlt]; rfl
      rw [e0, List.foldl_append]
      exact hr
    · obtain rfl : j = pth.length := by omega
      have hfin := H3.out.1.after hS
      rw [List.take_length] at hfin
      have HF := Lib.hid hfin
      clear hfin hS
      go_wp2_with fail
      refine HI.out _ _ _ _ _ _ _ _ _ _ _ _ _ _ _ _ _ _ _ _ _ _ _ _ _ _ _ _ _ _ _ _ _ _ _ _ _ _ _ _ _ _ _ _ _ _ _ _ _ _ _ _ _ _ _ _ ?_
      rw [tlyCall, H3.out.2.2.2.2.2, ← H3.out.2.2.2.1, ← HS.out.2.2.2]
      exact HF.out
end Go.Proofs.Ythmldeningpjbaa
/- The rest of a function's text from a statement on: for a great function's parts as theorems of their own. -/
namespace Go.Proofs.Ythmldeningpjbaa
open Go

/-- is region n in it -/
def hasReg (n : Nat) : Code → Bool
  | .region k _ _ => k == n
  | .loop c => hasReg n c
  | .seq a b => hasReg n a || hasReg n b
  | .block _ c => hasReg n c
  | .scope c => hasReg n c
  | .cond _ a b => hasReg n a || hasReg n b
  | _ => false
/-- the rest of the sequence, beginning with the statement that holds region n -/
def restAt (n : Nat) : Code → Code
  | .seq a b => if hasReg n a then .seq a b else restAt n b
  | .scope c => restAt n c
  | c => c
noncomputable def restOf (f : Func) (n : Nat) : Code := restAt n (f.body.getD .skip)
end Go.Proofs.Ythmldeningpjbaa
