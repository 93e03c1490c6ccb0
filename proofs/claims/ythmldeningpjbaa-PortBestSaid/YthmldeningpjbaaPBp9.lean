/- port.CheckPlan: from the map on (printed by wip/tools/ptplanc.py) -/
import Derived.Test.YthmldeningpjbaaPBp8
import Derived.Test.YthmldeningpjbaaPBp2
set_option linter.unusedVariables false
set_option linter.unusedSimpArgs false
namespace Go.Proofs.Ythmldeningpjbaa
open Go Go.RowKit Go.WideMaps Sp Pt
set_option linter.unusedVariables false
set_option linter.unusedSimpArgs false

set_option linter.unusedVariables false
def PsV (W0 : World) (tb xb k H : Nat) (x tg : Int) : Nat → Value → Prop
  | 0, v => v = .slice (some ⟨tb, 0, none⟩) H H
  | 1, v => v = .pointer (some ⟨xb, 0, none⟩)
  | 2, v => v = .int .i64 k
  | 3, v => v = .pointer (some ⟨tb, k, none⟩)
  | 4, v => v = .int .i64 x
  | 5, v => v = .pointer (some ⟨xb, 2, none⟩)
  | 6, v => v = .int .i64 tg
  | 7, v => v = .int .i64 (x + tg)
  | 8, v => v = .pointer (some ⟨tb, k, none⟩)
  | _, _ => True
def PsW (W0 : World) (tb xb k H : Nat) (x tg : Int) (l : Nat → Bool) (w : World) : Prop := if l 9 then w = (W0.setCell ⟨tb, k, none⟩ (.int .i64 (x + tg))).drew else w = W0.drew
set_option maxRecDepth 100000 in
set_option maxHeartbeats 4000000 in
theorem plSw {W0 wr : World} {mb tb wb H L cl i D : Nat} {Al : Option Addr} {t : Tly} {ss : List Swp} (S : PlSt W0 wr mb tb wb H t) (hD : D ≤ mb ∧ D ≤ tb ∧ D ≤ wb ∧ D ≤ W0.heap.size) (hcs : RdB D W0 3 Al L (swcs ss)) (hL : ss.length = L) (hi : i < L) (hL2 : L ≤ 1000)
    (hc : 0 ≤ (ss.getD i default).hour ∧ (ss.getD i default).hour < H ∧ -1000 ≤ (ss.getD i default).tugs ∧ (ss.getD i default).tugs ≤ 1000) (hH : H ≤ 1000) (htg : ∀ k, -1000000 ≤ getI t.tugs k ∧ getI t.tugs k ≤ 1000000) (hne : mb ≠ tb ∧ mb ≠ wb ∧ tb ≠ wb) {s0 s1 s2 s3 s4 s5 s6 s7 s8 s9 s10 s11 s12 s14 s15 s16 s17 s18 s19 s20 s21 s22 s23 s24 s25 s26 s27 s28 s29 s30 s31 s32 s33 s34 s35 s36 s37 s38 s39 s40 s41 s42 s43 s44 s45 s46 s47 s48 s49 s50 s51 s52 s53 s54 s55 s56 s57 s58 s59 s60 s61 s62 s63 s64 s65 s66 s67 s68 s69 s70 s71 s72 s73 s74 s75 s76 s77 s78 s79 s80 s81 s82 s83 s84 s85 s86 s87 s88 s89 s90 s91 s92 s93 s94 s95 s96 s97 s98 s99 s100 s101 s102 s103 s104 s105 s106 s107 s108 s109 s110 s111 s112 s113 s114 s115 s116 s117 s118 s119 s120 s121 s122 s123 s124 s125 s126 s127 s128 s129 s130 s131 s132 s133 s134 s135 s136 s137 s138 s139 s140 s141 s142 s143 s144 s145 s146 s147 s148 s149 s150 s151 s152 s153 s154 s155 s156 s160 s161 s162 s163 s164 s165 s166 s167 s168 s169 s170 s171 s172 s173 s174 s175 s176 s177 s178 s179 s180 s181 s182 s183 s184 s185 s186 s187 s188 s189 s190 : Value} {Q0 : Exit → Act → World → Prop} {Inv : Act → World → Prop}
    (hInv : ∀ (t20 t160 t161 t162 t163 t164 t165 t166 t167 t168 t169 t170 t171 t172 : Value)  (w' : World), PlSt W0 w' mb tb wb H ⟨addSwp t.tugs (ss.getD i default), t.twice, t.hits⟩ → Inv ⟨#[s0, s1, s2, s3, s4, s5, s6, s7, s8, s9, s10, s11, s12, .slice (some ⟨tb, 0, none⟩) H H, s14, s15, s16, s17, s18, s19, t20, s21, s22, s23, s24, s25, s26, s27, s28, s29, s30, s31, s32, s33, s34, s35, s36, s37, s38, s39, s40, s41, s42, s43, s44, s45, s46, s47, s48, s49, s50, s51, s52, s53, s54, s55, s56, s57, s58, s59, s60, s61, s62, s63, s64, s65, s66, s67, s68, s69, s70, s71, s72, s73, s74, s75, s76, s77, s78, s79, s80, s81, s82, s83, s84, s85, s86, s87, s88, s89, s90, s91, s92, s93, s94, s95, s96, s97, s98, s99, s100, s101, s102, s103, s104, s105, s106, s107, s108, s109, s110, s111, s112, s113, s114, s115, s116, s117, s118, s119, s120, s121, s122, s123, s124, s125, s126, s127, s128, s129, s130, s131, s132, s133, s134, s135, s136, s137, s138, s139, s140, s141, s142, s143, s144, s145, s146, s147, s148, s149, s150, s151, s152, s153, s154, s155, s156, .slice Al L cl, .int .i64 L, .int .i64 ((i + 1 : Nat) : Int), t160, t161, t162, t163, t164, t165, t166, t167, t168, t169, t170, t171, t172, s173, s174, s175, s176, s177, s178, s179, s180, s181, s182, s183, s184, s185, s186, s187, s188, s189, s190], []⟩ w') :
    Code.wp Try.prog (loopBody Try.f52 4) (Exit.then Inv Q0) ⟨#[s0, s1, s2, s3, s4, s5, s6, s7, s8, s9, s10, s11, s12, .slice (some ⟨tb, 0, none⟩) H H, s14, s15, s16, s17, s18, s19, s20, s21, s22, s23, s24, s25, s26, s27, s28, s29, s30, s31, s32, s33, s34, s35, s36, s37, s38, s39, s40, s41, s42, s43, s44, s45, s46, s47, s48, s49, s50, s51, s52, s53, s54, s55, s56, s57, s58, s59, s60, s61, s62, s63, s64, s65, s66, s67, s68, s69, s70, s71, s72, s73, s74, s75, s76, s77, s78, s79, s80, s81, s82, s83, s84, s85, s86, s87, s88, s89, s90, s91, s92, s93, s94, s95, s96, s97, s98, s99, s100, s101, s102, s103, s104, s105, s106, s107, s108, s109, s110, s111, s112, s113, s114, s115, s116, s117, s118, s119, s120, s121, s122, s123, s124, s125, s126, s127, s128, s129, s130, s131, s132, s133, s134, s135, s136, s137, s138, s139, s140, s141, s142, s143, s144, s145, s146, s147, s148, s149, s150, s151, s152, s153, s154, s155, s156, .slice Al L cl, .int .i64 L, .int .i64 i, s160, s161, s162, s163, s164, s165, s166, s167, s168, s169, s170, s171, s172, s173, s174, s175, s176, s177, s178, s179, s180, s181, s182, s183, s184, s185, s186, s187, s188, s189, s190], []⟩ wr := by
  conv => arg 2; whnf
  obtain ⟨hr0, hr1, tg0, tg1⟩ := hc
  have hg : ss[i]'(by omega) = ss.getD i default := by simp [List.getD_eq_getElem?_getD, List.getElem?_eq_getElem (show i < ss.length by omega)]
  generalize ss.getD i default = x0 at *
  obtain ⟨bc, oc, rfl, hbc, hcc⟩ := hcs.2 (by omega)
  obtain ⟨g0, g1, g2⟩ := swcs_get (l := ss) (k := i) (by omega)
  rw [hg] at g0 g1 g2
  have cw : ∀ {o : Nat} {u : Value}, W0.cell? ⟨bc, o, none⟩ = some u → wr.cell? ⟨bc, o, none⟩ = some u := fun h => S.kp.cell h (by simp; omega)
  obtain ⟨ho, cn, tg⟩ := x0
  simp only at hr0 hr1 tg0 tg1 g0 g1 g2
  obtain ⟨k, rfl⟩ := Int.eq_ofNat_of_zero_le hr0
  have hk : k < H := by omega
  have c0 := cw (hcc _ _ g0)
  have c1 : wr.cell? ⟨bc, oc + i * 3 + 1, none⟩ = _ := cw (hcc _ _ g1)
  have c2 : wr.cell? ⟨bc, oc + i * 3 + 2, none⟩ = _ := cw (hcc _ _ g2)
  have zc := World.block_lt_of_cell? _ _ c0
  obtain ⟨W2, hW2⟩ : ∃ W2, W2 = wr.alloc (.cells #[.int .i64 k, .int .i64 cn, .int .i64 tg] 126) := ⟨_, rfl⟩
  obtain ⟨xb, hxb⟩ : ∃ xb, xb = wr.heap.size := ⟨_, rfl⟩
  have hxh : W2.heap[xb]? = some (.cells #[.int .i64 k, .int .i64 cn, .int .i64 tg] 126 (0, 0)) := by rw [hW2, hxb]; exact heap_alloc_new _ _
  have S2 : PlSt W0 W2 mb tb wb H t := by rw [hW2]; exact S.alloc _
  obtain ⟨x, hx⟩ : ∃ x, x = getI t.tugs k := ⟨_, rfl⟩
  have hxr := htg k
  rw [← hx] at hxr
  have e1 : W2.cell? ⟨tb, k, none⟩ = some (.int .i64 x) := by rw [cell_of_heap S2.tg, List.getElem?_toArray, ints_get (by rw [S2.tl]; exact hk), hx]; simp [getI]
  have HE := Lib.hid (And.intro ((cell_of_heap hxh 0).trans rfl) (And.intro ((cell_of_heap hxh 2).trans rfl) (And.intro e1 (And.intro (frozen_of_heap S2.tg k) (And.intro (heap_lt hxh) (heap_lt S2.tg))))))
  have HI := Lib.hid hInv
  have HS := Lib.hid (And.intro S2 hx)
  have HN := Lib.hid hne
  have n1 : (i : Int) < (L : Int) := by omega
  clear hInv S S2 hxh hx hcs hcc cw g0 g1 g2 e1 htg hne hg
  go_upto_region 41 with fail
  rw [← hW2, ← hxb]
  clear hW2 hxb c0 c1 c2 zc
  have k1 : (0 : Int) ≤ (k : Int) := by omega
  have k2 : (k : Int) < (H : Int) := by omega
  refine wp_region_steps (σ := Unit) (by kernel_rfl) (by kernel_rfl) (fun _ jx vx _ => PsV W2 tb xb k H x tg jx vx) (fun _ ly wx => PsW W2 tb xb k H x tg ly wx) () ?_ ?_ ?_
  · exact (by unfold PsW; rw [if_neg (by simp)])
  · simp only [AllFrom, Nat.zero_add, Nat.reduceAdd]
    refine ⟨?_, ?_, ?_, ?_, ?_, ?_, ?_, ?_, ?_, ?_, trivial⟩
    · refine step_pure fun sg ly a wr hl hd hW hF => ?_
      have et13 := hF.old 13 (by kernel_rfl)
      simp [Act.eval] at et13
      exact ⟨by simpa [PsW, upd] using hW, .slice (some ⟨tb, 0, none⟩) H H, by go_simp, rfl⟩
    · refine step_pure fun sg ly a wr hl hd hW hF => ?_
      have et20 := hF.old 20 (by kernel_rfl)
      simp [Act.eval] at et20
      exact ⟨by simpa [PsW, upd] using hW, .pointer (some ⟨xb, 0, none⟩), by go_simp, rfl⟩
    · refine step_pure fun sg ly a wr hl hd hW hF => ?_
      simp [Region.binds] at hd
      have et164 := hF.new 1 164 (by simp [hd]) rfl
      simp [PsV, Act.eval] at et164
      have n9_8 := hF.notYet 2 8 hl (by kernel_rfl)
      have n9 := hF.notYet 8 9 n9_8 (by kernel_rfl)
      have hW' := hW
      unfold PsW at hW'
      rw [if_neg (by simp [n9])] at hW'
      subst hW'
      obtain ⟨d0, d5, e1, q1, zx, zt⟩ := HE.out
      exact ⟨by unfold PsW; rw [if_neg (by simp [upd, n9])], _, by go_simp, rfl⟩
    · refine step_pure fun sg ly a wr hl hd hW hF => ?_
      simp [Region.binds] at hd
      have et163 := hF.new 0 163 (by simp [hd]) rfl
      simp [PsV, Act.eval] at et163
      have et165 := hF.new 2 165 (by simp [hd]) rfl
      simp [PsV, Act.eval] at et165
      exact ⟨by simpa [PsW, upd] using hW, .pointer (some ⟨tb, k, none⟩), by go_simp, rfl⟩
    · refine step_pure fun sg ly a wr hl hd hW hF => ?_
      simp [Region.binds] at hd
      have et166 := hF.new 3 166 (by simp [hd]) rfl
      simp [PsV, Act.eval] at et166
      have n9_7 := hF.notYet 4 7 hl (by kernel_rfl)
      have n9 := hF.notYet 7 9 n9_7 (by kernel_rfl)
      have hW' := hW
      unfold PsW at hW'
      rw [if_neg (by simp [n9])] at hW'
      subst hW'
      obtain ⟨d0, d5, e1, q1, zx, zt⟩ := HE.out
      exact ⟨by unfold PsW; rw [if_neg (by simp [upd, n9])], _, by go_simp, rfl⟩
    · refine step_pure fun sg ly a wr hl hd hW hF => ?_
      have et20 := hF.old 20 (by kernel_rfl)
      simp [Act.eval] at et20
      exact ⟨by simpa [PsW, upd] using hW, .pointer (some ⟨xb, 2, none⟩), by go_simp, rfl⟩
    · refine step_pure fun sg ly a wr hl hd hW hF => ?_
      simp [Region.binds] at hd
      have et168 := hF.new 5 168 (by simp [hd]) rfl
      simp [PsV, Act.eval] at et168
      have n9_7 := hF.notYet 6 7 hl (by kernel_rfl)
      have n9 := hF.notYet 7 9 n9_7 (by kernel_rfl)
      have hW' := hW
      unfold PsW at hW'
      rw [if_neg (by simp [n9])] at hW'
      subst hW'
      obtain ⟨d0, d5, e1, q1, zx, zt⟩ := HE.out
      exact ⟨by unfold PsW; rw [if_neg (by simp [upd, n9])], _, by go_simp, rfl⟩
    · refine step_pure fun sg ly a wr hl hd hW hF => ?_
      simp [Region.binds] at hd
      have et167 := hF.new 4 167 (by simp [hd]) rfl
      simp [PsV, Act.eval] at et167
      have et169 := hF.new 6 169 (by simp [hd]) rfl
      simp [PsV, Act.eval] at et169
      have ew := IntWalk.i64_in (x + tg) (by omega)
      exact ⟨by simpa [PsW, upd] using hW, .int .i64 (x + tg), by go_simp, rfl⟩
    · refine step_pure fun sg ly a wr hl hd hW hF => ?_
      simp [Region.binds] at hd
      have et163 := hF.new 0 163 (by simp [hd]) rfl
      simp [PsV, Act.eval] at et163
      have et165 := hF.new 2 165 (by simp [hd]) rfl
      simp [PsV, Act.eval] at et165
      exact ⟨by simpa [PsW, upd] using hW, .pointer (some ⟨tb, k, none⟩), by go_simp, rfl⟩
    · refine step_store rfl fun sg ly a wr hl hd hW hF => ?_
      simp [Region.binds] at hd
      have et171 := hF.new 8 171 (by simp [hd]) rfl
      simp [PsV, Act.eval] at et171
      have et170 := hF.new 7 170 (by simp [hd]) rfl
      simp [PsV, Act.eval] at et170
      have hW' := hW
      unfold PsW at hW'
      rw [if_neg (by simp [hl])] at hW'
      subst hW'
      obtain ⟨d0, d5, e1, q1, zx, zt⟩ := HE.out
      refine ⟨(W2.setCell ⟨tb, k, none⟩ (.int .i64 (x + tg))).drew, (), .skip, by go_simp, .inl rfl, by unfold PsW; rw [if_pos (by simp [upd])], fun _ _ _ h => h⟩
  intro _ a w3 hWW hF
  obtain ⟨f3, hf3, rfl⟩ := hF.lit
  have hw3 : w3 = (W2.setCell ⟨tb, k, none⟩ (.int .i64 (x + tg))).drew := by
    have h5 := hWW
    unfold PsW at h5
    rwa [if_pos (by simp)] at h5
  have S3 : PlSt W0 w3 mb tb wb H ⟨setI t.tugs k (x + tg), t.twice, t.hits⟩ := by rw [hw3]; exact HS.out.1.tug _ hk ⟨HN.out.1, HN.out.2.2⟩
  have H3 := Lib.hid S3
  clear hf3 hF hWW hw3 HE S3
  simp only [List.filterMap, List.foldl, List.setIfInBounds_toArray, List.set_cons_succ, List.set_cons_zero]
  go_wp2_with fail
  refine HI.out _ _ _ _ _ _ _ _ _ _ _ _ _ _ _ ?_
  rw [addSwp, ← HS.out.2]
  exact H3.out


def falses (n : Nat) : Array Value := (List.replicate n (Value.bool false)).toArray
theorem run_make_bools {P : Program} (t e : TypeId) (i : TypeInfo) (ht : P.underlying t = some (.slice e)) (hi : P.info? e = some i) (hz : i.zero = some (.bool false)) (hsize : i.size = 1) (hby : i.bytes = 1) (n : Nat) (hn : n ≤ 1000000) (w : World) :
    (Instr.makeSlice t (.int .i64 (n : Int)) (.int .i64 (n : Int))).run P w = .ok (.slice (some ⟨w.heap.size, 0, none⟩) n n) (w.alloc (.cells (falses n) e)) := by
  have hr := run_make (P := P) w t e i (.bool false) ht hi hz .i64 .i64 n n (by omega) (Int.le_refl _) (by rw [hby]; omega) (by omega)
  simp only [Int.toNat_natCast, hsize, Nat.mul_one] at hr
  rw [hr]
  congr 3
  apply Array.ext'
  rw [show (Value.bool false).cells = #[Value.bool false] from rfl, toList_madeCells_one]
  simp [falses]
theorem info_boolP : (Try.prog.info? 4).map (fun i => (i.zero, i.size, i.bytes)) = some (some (.bool false), 1, 1) := by kernel_rfl
theorem info_intP : (Try.prog.info? 3).map (fun i => (i.zero, i.size, i.bytes)) = some (some (.int .i64 0), 1, 8) := by kernel_rfl

set_option linter.unusedVariables false
def PmV (W0 : World) (lb H : Nat) (s : Nat × Nat) : Nat → Value → Prop
  | 0, v => v = .pointer (some ⟨lb, 0, none⟩)
  | 1, v => v = .int .i64 H
  | 2, v => v = .slice (some ⟨s.1, 0, none⟩) H H
  | 3, v => v = .pointer (some ⟨lb, 0, none⟩)
  | 4, v => v = .int .i64 H
  | 5, v => v = .slice (some ⟨s.2, 0, none⟩) H H
  | 6, v => v = .slice (some ⟨s.1, 0, none⟩) H H
  | 7, v => v = .slice (some ⟨s.2, 0, none⟩) H H
  | _, _ => True
def PmW (W0 : World) (lb H : Nat) (s : Nat × Nat) (l : Nat → Bool) (w : World) : Prop := Keep [] W0 w ∧ (l 2 = true → w.heap[s.1]? = some (.cells (noughts H) 3 (0, 0)) ∧ W0.heap.size ≤ s.1) ∧ (l 5 = true → w.heap[s.2]? = some (.cells (falses H) 4 (0, 0)) ∧ W0.heap.size ≤ s.2)
set_option maxRecDepth 100000 in
set_option maxHeartbeats 4000000 in
theorem plTail {Q0 : Exit → Act → World → Prop} {w w0 : World} {pb lb H cb cc cl cs D : Nat} {Ac Ab Al As : Option Addr} {pr : Prt} {pl : Pln} (bw : Below w.heap.size w w0) (hp : w0.heap[pb]? = some (.cells (prtV Ac cc Ab cb pr) 26 (0, 0))) (hlb : w0.heap[lb]? = some (.cells (plnV Al cl As cs pl) 31 (0, 0))) (PB : PrtB D w0 Ac cc Ab cb pr) (LB : PlnB D w0 Al cl As cs pl) (hD : D ≤ w0.heap.size) (pv : PVal pr) (hH : pl.hours = (H : Int)) (hHr : 1 ≤ H ∧ H ≤ 100) (hn : pl.calls.length ≤ 60 ∧ pl.swps.length ≤ 200)
    (hca : ∀ c ∈ pl.calls, 0 ≤ c.berth ∧ c.berth < pr.bts.length ∧ 0 ≤ c.most ∧ c.most ≤ 1000000 ∧ 0 ≤ c.tugs ∧ c.tugs ≤ 20 ∧ 10 ≤ c.draught ∧ c.draught ≤ (bt pr c.berth).depth ∧ 0 ≤ c.hour ∧ c.hour < pl.hours ∧ 0 ≤ c.hour) (hsw : ∀ s ∈ pl.swps, 0 ≤ s.channel ∧ s.channel < pr.chs.length ∧ 1 ≤ s.tugs ∧ s.tugs ≤ 20 ∧ 0 ≤ s.hour ∧ s.hour < pl.hours) {s0 s1 s4 s5 s6 s7 s8 s9 s10 s11 s12 s13 s14 s15 s16 s17 s18 s19 s20 s21 s22 s23 s24 s25 s26 s27 s28 s29 s30 s31 s32 s33 s34 s35 s36 s37 s38 s39 s40 s41 s42 s43 s44 s45 s46 s47 s48 s49 s50 s51 s52 s53 s54 s55 s56 s57 s58 s59 s60 s61 s62 s63 s64 s65 s66 s67 s68 s69 s70 s71 s72 s73 s74 s75 s76 s77 s78 s79 s80 s81 s82 s83 s84 s85 s86 s87 s88 s89 s90 s91 s92 s93 s94 s95 s96 s97 s98 s99 s100 s101 s102 s103 s104 s105 s106 s107 s108 s109 s110 s111 s112 s113 s114 s115 s116 s117 s118 s119 s120 s121 s122 s123 s124 s125 s126 s127 s128 s129 s130 s131 s132 s133 s134 s135 s136 s137 s138 s139 s140 s141 s142 s143 s144 s145 s146 s147 s148 s149 s150 s151 s152 s153 s154 s155 s156 s157 s158 s159 s160 s161 s162 s163 s164 s165 s166 s167 s168 s169 s170 s171 s172 s173 s174 s175 s176 s177 s178 s179 s180 s181 s182 s183 s184 s185 s186 s187 s188 s189 s190 : Value} (hQ0 : ∀ e1 a1 w1, bodyPost Try.prog Try.f52 (fun e w' => e = .returned (.int .i64 (finE pr.tugs (pl.swps.foldl addSwp (tlyCalls pr H pl.calls).tugs) (tlyCalls pr H pl.calls).twice 0 H)) ∧ Below w.heap.size w w') e1 a1 w1 → Q0 e1 a1 w1) :
    Code.wp Try.prog (restOf Try.f52 25) Q0 ⟨#[s0, s1, .pointer (some ⟨pb, 0, none⟩), .pointer (some ⟨lb, 0, none⟩), s4, s5, s6, s7, s8, s9, s10, s11, s12, s13, s14, s15, s16, s17, s18, s19, s20, s21, s22, s23, s24, s25, s26, s27, s28, s29, s30, s31, s32, s33, s34, s35, s36, s37, s38, s39, s40, s41, s42, s43, s44, s45, s46, s47, s48, s49, s50, s51, s52, s53, s54, s55, s56, s57, s58, s59, s60, s61, s62, s63, s64, s65, s66, s67, s68, s69, s70, s71, s72, s73, s74, s75, s76, s77, s78, s79, s80, s81, s82, s83, s84, s85, s86, s87, s88, s89, s90, s91, s92, s93, s94, s95, s96, s97, s98, s99, s100, s101, s102, s103, s104, s105, s106, s107, s108, s109, s110, s111, s112, s113, s114, s115, s116, s117, s118, s119, s120, s121, s122, s123, s124, s125, s126, s127, s128, s129, s130, s131, s132, s133, s134, s135, s136, s137, s138, s139, s140, s141, s142, s143, s144, s145, s146, s147, s148, s149, s150, s151, s152, s153, s154, s155, s156, s157, s158, s159, s160, s161, s162, s163, s164, s165, s166, s167, s168, s169, s170, s171, s172, s173, s174, s175, s176, s177, s178, s179, s180, s181, s182, s183, s184, s185, s186, s187, s188, s189, s190], []⟩ w0 := by
  refine wp_mono ?_ hQ0
  clear hQ0
  conv => arg 2; whnf
  obtain ⟨iI, hI, hI0, hI1, hI2⟩ := info_parts info_intP
  obtain ⟨iB, hB, hB0, hB1, hB2⟩ := info_parts info_boolP
  have hll := heap_lt hlb
  obtain ⟨W1, hW1⟩ : ∃ W1, W1 = w0.alloc (.map #[] 0) := ⟨_, rfl⟩
  obtain ⟨mb, hmb⟩ : ∃ mb, mb = w0.heap.size := ⟨_, rfl⟩
  have M1 : MapI Try.prog 193 W1 mb 0 (fun _ => 0) := by rw [hW1, hmb]; exact MapI.made _
  have b1 : Below w0.heap.size w0 W1 := by rw [hW1]; exact (Below.refl _ _).alloc (Nat.le_refl _) _
  have hl1 := (b1.block _ hll).trans hlb
  have hmbs : w0.heap.size ≤ mb ∧ mb < W1.heap.size := ⟨by omega, M1.lt⟩
  have HL := Lib.hid (show W1.cell? ⟨lb, 0, none⟩ = some (.int .i64 H) from by rw [← hH]; exact (cell_of_heap hl1 0).trans rfl)
  have zl := heap_lt hl1
  have H0 := Lib.hid (And.intro bw (And.intro hp (And.intro PB (And.intro LB (And.intro pv (And.intro hca (And.intro hsw (And.intro hlb (And.intro M1 b1)))))))))
  have HH := Lib.hid hH
  have hmm : (Instr.makeMap 192 none).run Try.prog w0 = .ok (.map (some w0.heap.size)) (w0.alloc (.map #[] 0)) := run_makeMap ..
  clear bw hp PB LB pv hca hsw hlb M1 b1 hl1 hH
  go_upto_region 26 with fail
  rw [← hW1, ← hmb]
  clear hW1 hmb
  refine wp_region_steps (σ := Nat × Nat) (by kernel_rfl) (by kernel_rfl) (fun sg jx vx _ => PmV W1 lb H sg jx vx) (fun sg ly wx => PmW W1 lb H sg ly wx) (0, 0) ?_ ?_ ?_
  · exact ⟨(Keep.refl _ _).drew, (fun h => absurd h (by simp)), (fun h => absurd h (by simp))⟩
  · simp only [AllFrom, Nat.zero_add, Nat.reduceAdd]
    refine ⟨?_, ?_, ?_, ?_, ?_, ?_, ?_, ?_, trivial⟩
    · refine step_pure fun sg ly a wr hl hd hW hF => ?_
      have et3 := hF.old 3 (by kernel_rfl)
      simp [Act.eval] at et3
      exact ⟨by simpa [PmW, upd] using hW, .pointer (some ⟨lb, 0, none⟩), by go_simp, rfl⟩
    · refine step_pure fun sg ly a wr hl hd hW hF => ?_
      simp [Region.binds] at hd
      have et93 := hF.new 0 93 (by simp [hd]) rfl
      simp [PmV, Act.eval] at et93
      have c0 := hW.1.cell HL.out (by simp)
      exact ⟨by simpa [PmW, upd] using hW, _, by go_simp, rfl⟩
    · refine step_run fun sg ly a wr hl hd hW hF => ?_
      simp [Region.binds] at hd
      have et94 := hF.new 1 94 (by simp [hd]) rfl
      simp [PmV, Act.eval] at et94
      have n6 := hF.notYet 2 6 hl (by kernel_rfl)
      have hmk := run_make_ints (P := Try.prog) 33 iI Try.underlying33 hI hI0 hI1 hI2 H (by omega) wr
      refine ⟨_, wr.alloc (.cells (noughts H) 3), (wr.heap.size, sg.2), by go_simp, ⟨hW.1.alloc _, fun _ => ⟨heap_alloc_new _ _, hW.1.size⟩, fun h => ⟨heap_alloc' (hW.2.2 (by simpa [upd] using h)).1 _, (hW.2.2 (by simpa [upd] using h)).2⟩⟩, rfl, ?_⟩
      intro i u hi h
      have i2 : i ≠ 2 := by rintro rfl; rw [hl] at hi; cases hi
      have i16 : i ≠ 6 := by rintro rfl; rw [n6] at hi; cases hi
      unfold PmV at h ⊢
      split at h <;> first | exact h | exact absurd rfl i2 | exact absurd rfl i16
    · refine step_pure fun sg ly a wr hl hd hW hF => ?_
      have et3 := hF.old 3 (by kernel_rfl)
      simp [Act.eval] at et3
      exact ⟨by simpa [PmW, upd] using hW, .pointer (some ⟨lb, 0, none⟩), by go_simp, rfl⟩
    · refine step_pure fun sg ly a wr hl hd hW hF => ?_
      simp [Region.binds] at hd
      have et96 := hF.new 3 96 (by simp [hd]) rfl
      simp [PmV, Act.eval] at et96
      have c0 := hW.1.cell HL.out (by simp)
      exact ⟨by simpa [PmW, upd] using hW, _, by go_simp, rfl⟩
    · refine step_run fun sg ly a wr hl hd hW hF => ?_
      simp [Region.binds] at hd
      have et97 := hF.new 4 97 (by simp [hd]) rfl
      simp [PmV, Act.eval] at et97
      have n7 := hF.notYet 5 7 hl (by kernel_rfl)
      have hmk := run_make_bools (P := Try.prog) 40 4 iB Try.underlying40 hB hB0 hB1 hB2 H (by omega) wr
      refine ⟨_, wr.alloc (.cells (falses H) 4), (sg.1, wr.heap.size), by go_simp, ⟨hW.1.alloc _, fun h => ⟨heap_alloc' (hW.2.1 (by simpa [upd] using h)).1 _, (hW.2.1 (by simpa [upd] using h)).2⟩, fun _ => ⟨heap_alloc_new _ _, hW.1.size⟩⟩, rfl, ?_⟩
      intro i u hi h
      have i2 : i ≠ 5 := by rintro rfl; rw [hl] at hi; cases hi
      have i17 : i ≠ 7 := by rintro rfl; rw [n7] at hi; cases hi
      unfold PmV at h ⊢
      split at h <;> first | exact h | exact absurd rfl i2 | exact absurd rfl i17
    · refine step_pure fun sg ly a wr hl hd hW hF => ?_
      simp [Region.binds] at hd
      have et95 := hF.new 2 95 (by simp [hd]) rfl
      simp [PmV, Act.eval] at et95
      exact ⟨by simpa [PmW, upd] using hW, .slice (some ⟨sg.1, 0, none⟩) H H, by go_simp, rfl⟩
    · refine step_pure fun sg ly a wr hl hd hW hF => ?_
      simp [Region.binds] at hd
      have et98 := hF.new 5 98 (by simp [hd]) rfl
      simp [PmV, Act.eval] at et98
      exact ⟨by simpa [PmW, upd] using hW, .slice (some ⟨sg.2, 0, none⟩) H H, by go_simp, rfl⟩
  intro sg a w4 hWW hF
  have e13 := hF.new 6 13 (by decide) rfl
  have e14 := hF.new 7 14 (by decide) rfl
  obtain ⟨f4, hf4, rfl⟩ := hF.lit
  rw [← hf4] at e13 e14
  simp only [PmV] at e13 e14
  obtain ⟨k4, u4, v4⟩ := hWW
  obtain ⟨t4, t4'⟩ := u4 (by simp)
  obtain ⟨b4, b4'⟩ := v4 (by simp)
  clear u4 v4
  obtain ⟨tb, wb⟩ := sg
  simp only at t4 t4' b4 b4' e13 e14
  have hne : mb ≠ tb ∧ mb ≠ wb ∧ tb ≠ wb := ⟨by omega, by omega, by rintro rfl; rw [t4] at b4; injection b4 with b4; injection b4 with _ b4; exact absurd b4 (by decide)⟩
  have S4 : PlSt w4 w4 mb tb wb H (tly0 H) := ⟨Keep.refl _ _, by rw [t4]; simp [noughts, tly0, ints], by simp [tly0], by rw [b4]; simp [falses, tly0, bools], by simp [tly0], (H0.out.2.2.2.2.2.2.2.2.1.of_heap (k4.block _ hmbs.2 (by simp))).congr (fun v => by rw [show (tly0 H).hits = [] from rfl, cntV_nil])⟩
  have B4 : Below w0.heap.size w0 w4 := H0.out.2.2.2.2.2.2.2.2.2.trans (k4.below (by omega) (by simp))
  have H4 := Lib.hid (And.intro S4 (And.intro hne B4))
  have hD4 : D ≤ mb ∧ D ≤ tb ∧ D ≤ wb ∧ D ≤ w4.heap.size := ⟨by omega, by omega, by omega, by have := B4.size; omega⟩
  have htbs : w0.heap.size ≤ tb ∧ w0.heap.size ≤ wb := ⟨by omega, by omega⟩
  clear hf4 hF k4 t4 t4' b4 b4' hne S4 B4 HL zl
  simp only [List.filterMap, List.foldl, List.setIfInBounds_toArray, List.set_cons_succ, List.set_cons_zero, e13, e14]
  clear e13 e14
  have hp4 := (H4.out.2.2.block _ (heap_lt H0.out.2.1)).trans H0.out.2.1
  have hl4 := (H4.out.2.2.block _ (heap_lt H0.out.2.2.2.2.2.2.2.1)).trans H0.out.2.2.2.2.2.2.2.1
  have PB4 := H0.out.2.2.1.below (H4.out.2.2.mono hD)
  have LB4 := H0.out.2.2.2.1.below (H4.out.2.2.mono hD)
  have hpn : pb ∉ [mb, tb, wb] := by have := heap_lt H0.out.2.1; simp; omega
  have hln : lb ∉ [mb, tb, wb] := by simp; omega
  have l1 : w4.cell? ⟨lb, 1, none⟩ = some (.slice Al pl.calls.length cl) := (cell_of_heap hl4 1).trans rfl
  have zl := heap_lt hl4
  have P4 := Lib.hid (And.intro hp4 (And.intro hl4 (And.intro PB4 (And.intro LB4 (And.intro hpn hln)))))
  clear hp4 hl4 PB4 LB4 hpn hln
  obtain ⟨L, hL⟩ : ∃ L, L = pl.calls.length := ⟨_, rfl⟩
  have hL60 : L ≤ 60 := by omega
  rw [← hL] at l1
  have HLL := Lib.hid hL
  clear hL
  go_wp2_with fail
  go_loopw [102] (fun q wq => ∃ i : Nat, i ≤ L ∧ q = .int .i64 i ∧ PlSt w4 wq mb tb wb H ((pl.calls.take i).foldl (tlyCall pr) (tly0 H))) (fun q _ => L - (intOf q).toNat)
  case atStart => exact ⟨0, Nat.zero_le _, rfl, H4.out.1⟩
  case round =>
    obtain ⟨i, hi, rfl, hS⟩ := hrel
    by_cases hlt : i < L
    · have hil : i < pl.calls.length := by rw [← HLL.out]; exact hlt
      have hget : pl.calls.getD i default ∈ pl.calls := by rw [List.getD_eq_getElem?_getD, List.getElem?_eq_getElem hil]; exact List.getElem_mem hil
      have hc := H0.out.2.2.2.2.2.1 _ hget
      have hHH := HH.out
      have LBc := P4.out.2.2.2.1.calls
      rw [← HLL.out] at LBc
      have hbd := tly_bd pr (pl.calls.take i) (tly0 H) 0 (fun j => by rw [tly0_get]; omega) (fun c hcm => by have := H0.out.2.2.2.2.2.1 c (List.mem_of_mem_take hcm); omega)
      have hhit : ((pl.calls.take i).foldl (tlyCall pr) (tly0 H)).hits.length ≤ 6 * i := by
        have : ∀ (l : List Cal) (t : Tly), (∀ c ∈ l, c ∈ pl.calls) → (l.foldl (tlyCall pr) t).hits.length ≤ t.hits.length + 6 * l.length := by
          intro l
          induction l with
          | nil => intro t _; exact Nat.le_refl _
          | cons c l ih =>
            intro t hm
            have hc2 := H0.out.2.2.2.2.2.1 c (hm c (by simp))
            have hb := (H0.out.2.2.2.2.1.btf _ (bt_mem hc2.1 hc2.2.1)).2.2.2
            have h6 : (bt pr c.berth).path.length ≤ 6 := by
              have hpl := nodup_range_le hb.1 hb.2
              have := H0.out.2.2.2.2.1.nc
              omega
            have := ih (tlyCall pr t c) (fun x hx => hm x (by simp [hx]))
            rw [List.foldl_cons, List.length_cons]
            have e : (tlyCall pr t c).hits.length = t.hits.length + (bt pr c.berth).path.length := by rw [tlyCall, hits_hit1]
            omega
        have := this (pl.calls.take i) (tly0 H) (fun c hcm => List.mem_of_mem_take hcm)
        rw [List.length_take] at this
        have h0 : (tly0 H).hits.length = 0 := rfl
        rw [h0] at this
        omega
      refine plOut (D := D) hS P4.out.1 P4.out.2.2.2.2.1 P4.out.2.2.1.bts hD4 LBc HLL.out.symm hlt (by omega) ⟨hc.1, hc.2.1, by omega, by omega, by omega, by omega⟩ (fun b hb => ?_) (by have := H0.out.2.2.2.2.1.nb; omega) (by omega) (by omega) (fun k => by have := hbd k; rw [List.length_take] at this; omega) H4.out.2.1 ?_
      · have hb2 := H0.out.2.2.2.2.1.btf b hb
        have := H0.out.2.2.2.2.1.nc
        have := nodup_range_le hb2.2.2.2.1 hb2.2.2.2.2
        exact ⟨by omega, fun y hy => by have := hb2.2.2.2.2 y hy; omega⟩
      intro _ _ _ _ _ _ _ _ _ _ _ _ _ _ _ _ _ _ _ _ _ _ _ _ _ _ _ _ _ _ _ _ _ _ _ _ _ _ _ _ _ _ _ _ _ _ _ _ _ _ _ _ _ _ _ w' hr
      refine ⟨?_, by simp [intOf]; omega⟩
      repeat apply Exists.intro
      refine ⟨?_, rfl⟩
      refine ⟨i + 1, by omega, by go_num, ?_⟩
      have e0 : (pl.calls.take (i + 1)) = pl.calls.take i ++ [pl.calls.getD i default] := by rw [List.take_succ_eq_append_getElem hil, List.getD_eq_getElem?_getD, List.getElem?_eq_getElem hil]; rfl
      rw [e0, List.foldl_append]
      exact hr
    · obtain rfl : i = L := by omega
      have hS5 : PlSt w4 wr mb tb wb H (tlyCalls pr H pl.calls) := by rw [HLL.out, List.take_length] at hS; exact hS
      obtain ⟨t5, ht5⟩ : ∃ t, t = tlyCalls pr H pl.calls := ⟨_, rfl⟩
      rw [← ht5] at hS5
      have bd5 : ∀ j, -1200 ≤ getI t5.tugs j ∧ getI t5.tugs j ≤ 1200 := fun j => by
        have := tly_bd pr pl.calls (tly0 H) 0 (fun j => by rw [tly0_get]; omega) (fun c hcm => by have := H0.out.2.2.2.2.2.1 c hcm; omega) j
        rw [ht5, tlyCalls]
        omega
      obtain ⟨w5, rfl⟩ : ∃ w5, w5 = wr := ⟨_, rfl⟩
      have hl5 := (hS5.kp.block _ (heap_lt P4.out.2.1) P4.out.2.2.2.2.2).trans P4.out.2.1
      have l2 : w5.cell? ⟨lb, 2, none⟩ = some (.slice As pl.swps.length cs) := (cell_of_heap hl5 2).trans rfl
      have zl5 := heap_lt hl5
      obtain ⟨M, hM⟩ : ∃ M, M = pl.swps.length := ⟨_, rfl⟩
      have hM200 : M ≤ 200 := by omega
      rw [← hM] at l2
      have H5 := Lib.hid (And.intro hS5 (And.intro ht5 (And.intro bd5 hM)))
      clear hS hS5 ht5 bd5 hM hl5 l1 zl
      go_wp2_with fail
      go_loopw [159] (fun q wq => ∃ i : Nat, i ≤ M ∧ q = .int .i64 i ∧ PlSt w4 wq mb tb wb H ⟨(pl.swps.take i).foldl addSwp t5.tugs, t5.twice, t5.hits⟩) (fun q _ => M - (intOf q).toNat)
      case atStart => exact ⟨0, Nat.zero_le _, rfl, H5.out.1⟩
      case round =>
        obtain ⟨i, hi, rfl, hS⟩ := hrel
        by_cases hlt : i < M
        · have hil : i < pl.swps.length := by rw [← H5.out.2.2.2]; exact hlt
          have hget : pl.swps.getD i default ∈ pl.swps := by rw [List.getD_eq_getElem?_getD, List.getElem?_eq_getElem hil]; exact List.getElem_mem hil
          have hc := H0.out.2.2.2.2.2.2.1 _ hget
          have hHH := HH.out
          have LBs := P4.out.2.2.2.1.swps
          rw [← H5.out.2.2.2] at LBs
          have hbd := swp_bd (pl.swps.take i) t5.tugs 1200 H5.out.2.2.1 (fun c hcm => by have := H0.out.2.2.2.2.2.2.1 c (List.mem_of_mem_take hcm); omega)
          refine plSw (D := D) hS hD4 LBs H5.out.2.2.2.symm hlt (by omega) ⟨by omega, by omega, by omega, by omega⟩ (by omega) (fun k => by have := hbd k; rw [List.length_take] at this; simp only; omega) H4.out.2.1 ?_
          intro _ _ _ _ _ _ _ _ _ _ _ _ _ _ w' hr
          refine ⟨?_, by simp [intOf]; omega⟩
          repeat apply Exists.intro
          refine ⟨?_, rfl⟩
          refine ⟨i + 1, by omega, by go_num, ?_⟩
          have e0 : (pl.swps.take (i + 1)) = pl.swps.take i ++ [pl.swps.getD i default] := by rw [List.take_succ_eq_append_getElem hil, List.getD_eq_getElem?_getD, List.getElem?_eq_getElem hil]; rfl
          rw [e0, List.foldl_append]
          exact hr
        · obtain rfl : i = M := by omega
          obtain ⟨ts, hts⟩ : ∃ ts, ts = pl.swps.foldl addSwp (tlyCalls pr H pl.calls).tugs := ⟨_, rfl⟩
          obtain ⟨tw, htw⟩ : ∃ tw, tw = (tlyCalls pr H pl.calls).twice := ⟨_, rfl⟩
          have S6 : PlSt w4 wr mb tb wb H ⟨ts, tw, t5.hits⟩ := by
            rw [H5.out.2.2.2, List.take_length, H5.out.2.1] at hS
            rw [hts, htw, H5.out.2.1]; exact hS
          obtain ⟨w6, rfl⟩ : ∃ w6, w6 = wr := ⟨_, rfl⟩
          have hp6 := (S6.kp.block _ (heap_lt P4.out.1) P4.out.2.2.2.2.1).trans P4.out.1
          have p2 : w6.cell? ⟨pb, 2, none⟩ = some (.int .i64 pr.tugs) := (cell_of_heap hp6 2).trans rfl
          have zp := heap_lt hp6
          have zt := heap_lt S6.tg
          have zw := heap_lt S6.wg
          have b6 : Below w.heap.size w w6 := H0.out.1.trans ((H4.out.2.2.trans (S6.kp.below H4.out.2.2.size (by simp; omega))).mono H0.out.1.size)
          obtain ⟨R, hR⟩ : ∃ R, R = finE pr.tugs ts tw 0 H := ⟨_, rfl⟩
          have hRR : finE pr.tugs (pl.swps.foldl addSwp (tlyCalls pr H pl.calls).tugs) (tlyCalls pr H pl.calls).twice 0 H = R := by rw [hR, hts, htw]
          have tc : ∀ k, k < H → w6.cell? ⟨tb, k, none⟩ = some (.int .i64 (ts.getD k 0)) ∧ w6.cell? ⟨wb, k, none⟩ = some (.bool (tw.getD k false)) := fun k hk => ⟨by
            rw [cell_of_heap S6.tg, List.getElem?_toArray]
            exact ints_get (show k < ts.length by have : ts.length = H := S6.tl; omega), by
            rw [cell_of_heap S6.wg, List.getElem?_toArray]
            exact bools_get (show k < tw.length by have : tw.length = H := S6.wl; omega)⟩
          have H6 := Lib.hid (And.intro b6 (And.intro hR (And.intro hRR tc)))
          clear hS S6 hts htw hp6 b6 hR hRR tc l2 zl5
          go_wp2_with fail
          go_loopg [175] (H) (fun g i wr => ∃ k : Nat, g + k = H ∧ i = .int .i64 k ∧ R = finE pr.tugs ts tw k (H - k) ∧ w6 = wr)
          case atStart => exact ⟨0, rfl, rfl, H6.out.2.1, rfl⟩
          case round =>
            obtain ⟨k, hk, rfl, hRk, rfl⟩ := hrel
            by_cases hlt : k < H
            · obtain ⟨c0, c1⟩ := H6.out.2.2.2 k hlt
              have hfe : finE pr.tugs ts tw k (H - k) = if tw.getD k false then 10 else if pr.tugs < ts.getD k 0 then 9 else finE pr.tugs ts tw (k + 1) (H - (k + 1)) := by
                rw [show H - k = (H - (k + 1)) + 1 from by omega, finE]
              rw [hfe] at hRk
              generalize ts.getD k 0 = x at *
              generalize tw.getD k false = y at *
              have HR := Lib.hid hRk
              clear hRk hfe
              cases y
              · go_wp2_with fail
                · go_ret
                  exact ⟨by rw [H6.out.2.2.1, HR.out]; simp [*], H6.out.1⟩
                · go_roundg (gk - 1)
                  case measure => omega
                  case rel => exact ⟨k + 1, by omega, by go_num, by rw [HR.out]; simp; omega, rfl⟩
              · go_wp2_with fail
                go_ret
                exact ⟨by rw [H6.out.2.2.1, HR.out]; rfl, H6.out.1⟩
            · obtain rfl : k = H := by omega
              have HR := Lib.hid hRk
              clear hRk
              go_wp2_with fail
              go_ret
              exact ⟨by rw [H6.out.2.2.1, HR.out, Nat.sub_self]; rfl, H6.out.1⟩
set_option maxRecDepth 100000 in
theorem plX2 {m : Nat} {s0 s1 s2 s3 s4 s5 s6 s7 s8 s9 s10 s11 s12 s13 s14 s15 s16 s17 s18 s19 s20 s21 s22 s23 s24 s25 s26 s27 s28 s29 s30 s31 s32 s33 s34 s35 s36 s37 s38 s39 s40 s41 s42 s43 s44 s45 s46 s47 s48 s49 s50 s51 s52 s53 s54 s55 s56 s57 s58 s59 s60 s61 s62 s65 s66 s67 s68 s69 s70 s71 s72 s73 s74 s75 s76 s77 s78 s79 s80 s81 s82 s83 s84 s85 s86 s87 s88 s89 s90 s91 s92 s93 s94 s95 s96 s97 s98 s99 s100 s101 s102 s103 s104 s105 s106 s107 s108 s109 s110 s111 s112 s113 s114 s115 s116 s117 s118 s119 s120 s121 s122 s123 s124 s125 s126 s127 s128 s129 s130 s131 s132 s133 s134 s135 s136 s137 s138 s139 s140 s141 s142 s143 s144 s145 s146 s147 s148 s149 s150 s151 s152 s153 s154 s155 s156 s157 s158 s159 s160 s161 s162 s163 s164 s165 s166 s167 s168 s169 s170 s171 s172 s173 s174 s175 s176 s177 s178 s179 s180 s181 s182 s183 s184 s185 s186 s187 s188 s189 s190 : Value} {Q0 : Exit → Act → World → Prop} {Inv : Act → World → Prop} {w : World}
    (hQ : Q0 (.exit 3) ⟨#[s0, s1, s2, s3, s4, s5, s6, s7, s8, s9, s10, s11, s12, s13, s14, s15, s16, s17, s18, s19, s20, s21, s22, s23, s24, s25, s26, s27, s28, s29, s30, s31, s32, s33, s34, s35, s36, s37, s38, s39, s40, s41, s42, s43, s44, s45, s46, s47, s48, s49, s50, s51, s52, s53, s54, s55, s56, s57, s58, s59, s60, s61, s62, .int .i64 m, .int .i64 m, .bool false, s66, s67, s68, s69, s70, s71, s72, s73, s74, s75, s76, s77, s78, s79, s80, s81, s82, s83, s84, s85, s86, s87, s88, s89, s90, s91, s92, s93, s94, s95, s96, s97, s98, s99, s100, s101, s102, s103, s104, s105, s106, s107, s108, s109, s110, s111, s112, s113, s114, s115, s116, s117, s118, s119, s120, s121, s122, s123, s124, s125, s126, s127, s128, s129, s130, s131, s132, s133, s134, s135, s136, s137, s138, s139, s140, s141, s142, s143, s144, s145, s146, s147, s148, s149, s150, s151, s152, s153, s154, s155, s156, s157, s158, s159, s160, s161, s162, s163, s164, s165, s166, s167, s168, s169, s170, s171, s172, s173, s174, s175, s176, s177, s178, s179, s180, s181, s182, s183, s184, s185, s186, s187, s188, s189, s190], []⟩ w) :
    Code.wp Try.prog (loopBody Try.f52 1) (Exit.then Inv Q0) ⟨#[s0, s1, s2, s3, s4, s5, s6, s7, s8, s9, s10, s11, s12, s13, s14, s15, s16, s17, s18, s19, s20, s21, s22, s23, s24, s25, s26, s27, s28, s29, s30, s31, s32, s33, s34, s35, s36, s37, s38, s39, s40, s41, s42, s43, s44, s45, s46, s47, s48, s49, s50, s51, s52, s53, s54, s55, s56, s57, s58, s59, s60, s61, s62, .int .i64 m, .int .i64 m, s65, s66, s67, s68, s69, s70, s71, s72, s73, s74, s75, s76, s77, s78, s79, s80, s81, s82, s83, s84, s85, s86, s87, s88, s89, s90, s91, s92, s93, s94, s95, s96, s97, s98, s99, s100, s101, s102, s103, s104, s105, s106, s107, s108, s109, s110, s111, s112, s113, s114, s115, s116, s117, s118, s119, s120, s121, s122, s123, s124, s125, s126, s127, s128, s129, s130, s131, s132, s133, s134, s135, s136, s137, s138, s139, s140, s141, s142, s143, s144, s145, s146, s147, s148, s149, s150, s151, s152, s153, s154, s155, s156, s157, s158, s159, s160, s161, s162, s163, s164, s165, s166, s167, s168, s169, s170, s171, s172, s173, s174, s175, s176, s177, s178, s179, s180, s181, s182, s183, s184, s185, s186, s187, s188, s189, s190], []⟩ w := by
  conv => arg 2; whnf
  have h : ¬ (m : Int) < (m : Int) := by omega
  have HQ := Lib.hid hQ
  clear hQ
  go_wp2_with fail
  exact HQ.out
end Go.Proofs.Ythmldeningpjbaa
