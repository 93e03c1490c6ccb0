import Derived.Test.YtalcinepeofmcaaGreatPBp7
import Derived.Test.YtalcinepeofmcaaGreatPBp1
set_option linter.unusedVariables false
set_option linter.unusedSimpArgs false
set_option maxRecDepth 100000
set_option maxHeartbeats 40000000
namespace Go.Proofs.YtalcinepeofmcaaGreat
open Go Go.RowKit Go.WideMaps Sp Pt
def PsV (W0 : World) (tb xb k H : Nat) (x tg : Int) : Nat → Value → Prop
  | 0, v => v = .slice (some ⟨tb, 0, none⟩) H H
  | 1, v => v = .pointer (some ⟨xb, 0, none⟩)
  | 2, v => v = .int .i64 k
  | 3, v => v = .pointer (some ⟨tb, k, none⟩)
  | 4, v => v = .int .i64 x
  | 5, v => v = .pointer (some ⟨xb, 2, none⟩)
  | 6, v => v = .int .i64 tg
  | 7, v => v = .int .i64 (x + tg)
  | 8, v => v = .pointer (some ⟨tb, k, none⟩)
  | _, _ => True
def PsW (W0 : World) (tb xb k H : Nat) (x tg : Int) (l : Nat → Bool) (w : World) : Prop := if l 9 then w = (W0.setCell ⟨tb, k, none⟩ (.int .i64 (x + tg))).drew else w = W0.drew
theorem plSw {W0 wr : World} {mb tb wb H L cl i D : Nat} {Al : Option Addr} {t : Tly} {ss : List Swp} (S : PlSt W0 wr mb tb wb H t) (hD : D ≤ mb ∧ D ≤ tb ∧ D ≤ wb ∧ D ≤ W0.heap.size) (hcs : RdB D W0 3 Al L (swcs ss)) (hL : ss.length = L) (hi : i < L) (hL2 : L ≤ 1000)
    (hc : 0 ≤ (ss.getD i default).hour ∧ (ss.getD i default).hour < H ∧ -1000 ≤ (ss.getD i default).tugs ∧ (ss.getD i default).tugs ≤ 1000) (hH : H ≤ 1000) (htg : ∀ k, -1000000 ≤ getI t.tugs k ∧ getI t.tugs k ≤ 1000000) (hne : mb ≠ tb ∧ mb ≠ wb ∧ tb ≠ wb) {s0 s1 s2 s3 s4 s5 s6 s7 s8 s9 s10 s11 s12 s14 s15 s16 s17 s18 s19 s20 s21 s22 s23 s24 s25 s26 s27 s28 s29 s30 s31 s32 s33 s34 s35 s36 s37 s38 s39 s40 s41 s42 s43 s44 s45 s46 s47 s48 s49 s50 s51 s52 s53 s54 s55 s56 s57 s58 s59 s60 s61 s62 s63 s64 s65 s66 s67 s68 s69 s70 s71 s72 s73 s74 s75 s76 s77 s78 s79 s80 s81 s82 s83 s84 s85 s86 s87 s88 s89 s90 s91 s92 s93 s94 s95 s96 s97 s98 s99 s100 s101 s102 s103 s104 s105 s106 s107 s108 s109 s110 s111 s112 s113 s114 s115 s116 s117 s118 s119 s120 s121 s122 s123 s124 s125 s126 s127 s128 s129 s130 s131 s132 s133 s134 s135 s136 s137 s138 s139 s140 s141 s142 s143 s144 s145 s146 s147 s148 s149 s150 s151 s152 s153 s154 s155 s156 s160 s161 s162 s163 s164 s165 s166 s167 s168 s169 s170 s171 s172 s173 s174 s175 s176 s177 s178 s179 s180 s181 s182 s183 s184 s185 s186 s187 s188 s189 s190 : Value} {Q0 : Exit → Act → World → Prop} {Inv : Act → World → Prop}
    (hInv : ∀ (t20 t160 t161 t162 t163 t164 t165 t166 t167 t168 t169 t170 t171 t172 : Value)  (w' : World), PlSt W0 w' mb tb wb H ⟨addSwp t.tugs (ss.getD i default), t.twice, t.hits⟩ → Inv ⟨#[s0, s1, s2, s3, s4, s5, s6, s7, s8, s9, s10, s11, s12, .slice (some ⟨tb, 0, none⟩) H H, s14, s15, s16, s17, s18, s19, t20, s21, s22, s23, s24, s25, s26, s27, s28, s29, s30, s31, s32, s33, s34, s35, s36, s37, s38, s39, s40, s41, s42, s43, s44, s45, s46, s47, s48, s49, s50, s51, s52, s53, s54, s55, s56, s57, s58, s59, s60, s61, s62, s63, s64, s65, s66, s67, s68, s69, s70, s71, s72, s73, s74, s75, s76, s77, s78, s79, s80, s81, s82, s83, s84, s85, s86, s87, s88, s89, s90, s91, s92, s93, s94, s95, s96, s97, s98, s99, s100, s101, s102, s103, s104, s105, s106, s107, s108, s109, s110, s111, s112, s113, s114, s115, s116, s117, s118, s119, s120, s121, s122, s123, s124, s125, s126, s127, s128, s129, s130, s131, s132, s133, s134, s135, s136, s137, s138, s139, s140, s141, s142, s143, s144, s145, s146, s147, s148, s149, s150, s151, s152, s153, s154, s155, s156, .slice Al L cl, .int .i64 L, .int .i64 ((i + 1 : Nat) : Int), t160, t161, t162, t163, t164, t165, t166, t167, t168, t169, t170, t171, t172, s173, s174, s175, s176, s177, s178, s179, s180, s181, s182, s183, s184, s185, s186, s187, s188, s189, s190], []⟩ w') :
    Code.wp Tryz.prog (loopBody Tryz.f56 4) (Exit.then Inv Q0) ⟨#[s0, s1, s2, s3, s4, s5, s6, s7, s8, s9, s10, s11, s12, .slice (some ⟨tb, 0, none⟩) H H, s14, s15, s16, s17, s18, s19, s20, s21, s22, s23, s24, s25, s26, s27, s28, s29, s30, s31, s32, s33, s34, s35, s36, s37, s38, s39, s40, s41, s42, s43, s44, s45, s46, s47, s48, s49, s50, s51, s52, s53, s54, s55, s56, s57, s58, s59, s60, s61, s62, s63, s64, s65, s66, s67, s68, s69, s70, s71, s72, s73, s74, s75, s76, s77, s78, s79, s80, s81, s82, s83, s84, s85, s86, s87, s88, s89, s90, s91, s92, s93, s94, s95, s96, s97, s98, s99, s100, s101, s102, s103, s104, s105, s106, s107, s108, s109, s110, s111, s112, s113, s114, s115, s116, s117, s118, s119, s120, s121, s122, s123, s124, s125, s126, s127, s128, s129, s130, s131, s132, s133, s134, s135, s136, s137, s138, s139, s140, s141, s142, s143, s144, s145, s146, s147, s148, s149, s150, s151, s152, s153, s154, s155, s156, .slice Al L cl, .int .i64 L, .int .i64 i, s160, s161, s162, s163, s164, s165, s166, s167, s168, s169, s170, s171, s172, s173, s174, s175, s176, s177, s178, s179, s180, s181, s182, s183, s184, s185, s186, s187, s188, s189, s190], []⟩ wr := by
  conv => arg 2; whnf
  obtain ⟨hr0, hr1, tg0, tg1⟩ := hc;have hg : ss[i]'(by omega) = ss.getD i default := by simp [List.getD_eq_getElem?_getD, List.getElem?_eq_getElem (show i < ss.length by omega)]
  generalize ss.getD i default = x0 at *;obtain ⟨bc, oc, rfl, hbc, hcc⟩ := hcs.2 (by omega);obtain ⟨g0, g1, g2⟩ := swcs_get (l := ss) (k := i) (by omega);rw [hg] at g0 g1 g2;have cw : ∀ {o : Nat} {u : Value}, W0.cell? ⟨bc, o, none⟩ = some u → wr.cell? ⟨bc, o, none⟩ = some u := fun h => S.kp.cell h (by simp; omega);obtain ⟨ho, cn, tg⟩ := x0;simp only at hr0 hr1 tg0 tg1 g0 g1 g2;obtain ⟨k, rfl⟩ := Int.eq_ofNat_of_zero_le hr0;have hk : k < H := by omega
  have c0 := cw (hcc _ _ g0);have c1 : wr.cell? ⟨bc, oc + i * 3 + 1, none⟩ = _ := cw (hcc _ _ g1);have c2 : wr.cell? ⟨bc, oc + i * 3 + 2, none⟩ = _ := cw (hcc _ _ g2);have zc := World.block_lt_of_cell? _ _ c0;obtain ⟨W2, hW2⟩ : ∃ W2, W2 = wr.alloc (.cells #[.int .i64 k, .int .i64 cn, .int .i64 tg] 126) := ⟨_, rfl⟩;obtain ⟨xb, hxb⟩ : ∃ xb, xb = wr.heap.size := ⟨_, rfl⟩;have hxh : W2.heap[xb]? = some (.cells #[.int .i64 k, .int .i64 cn, .int .i64 tg] 126 (0, 0)) := by rw [hW2, hxb]; exact heap_alloc_new _ _
  have S2 : PlSt W0 W2 mb tb wb H t := by rw [hW2]; exact S.alloc _
  obtain ⟨x, hx⟩ : ∃ x, x = getI t.tugs k := ⟨_, rfl⟩;have hxr := htg k;rw [← hx] at hxr;have e1 : W2.cell? ⟨tb, k, none⟩ = some (.int .i64 x) := by rw [cOH S2.tg, List.getElem?_toArray, iG_ (by rw [S2.tl]; exact hk), hx]; simp [getI]
  have HE := Lib.hid (And.intro ((cOH hxh 0).trans rfl) (And.intro ((cOH hxh 2).trans rfl) (And.intro e1 (And.intro (fOH S2.tg k) (And.intro (hL_ hxh) (hL_ S2.tg))))));have HI := Lib.hid hInv;have HS := Lib.hid (And.intro S2 hx);have HN := Lib.hid hne;have n1 : (i : Int) < (L : Int) := by omega
  clear hInv S S2 hxh hx hcs hcc cw g0 g1 g2 e1 htg hne hg;go_upto_region 41 with fail
  rw [← hW2, ← hxb];clear hW2 hxb c0 c1 c2 zc;have k1 : (0 : Int) ≤ (k : Int) := by omega
  have k2 : (k : Int) < (H : Int) := by omega
  refine wRS (σ := Unit) (by kernel_rfl) (by kernel_rfl) (fun _ jx vx _ => PsV W2 tb xb k H x tg jx vx) (fun _ ly wx => PsW W2 tb xb k H x tg ly wx) () ?_ ?_ ?_
  · exact (by unfold PsW; rw [if_neg (by simp)])
  · simp only [AllFrom, Nat.zero_add, Nat.reduceAdd];refine ⟨?_, ?_, ?_, ?_, ?_, ?_, ?_, ?_, ?_, ?_, trivial⟩
    · refine sP_ fun sg ly a wr hl hd hW hF => ?_;have et13 := hF.old 13 (by kernel_rfl);simp [Act.eval] at et13;exact ⟨by simpa [PsW, upd] using hW, .slice (some ⟨tb, 0, none⟩) H H, by go_simp, rfl⟩
    · refine sP_ fun sg ly a wr hl hd hW hF => ?_;have et20 := hF.old 20 (by kernel_rfl);simp [Act.eval] at et20;exact ⟨by simpa [PsW, upd] using hW, .pointer (some ⟨xb, 0, none⟩), by go_simp, rfl⟩
    · refine sP_ fun sg ly a wr hl hd hW hF => ?_;simp [Region.binds] at hd;have et164 := hF.new 1 164 (by simp [hd]) rfl;simp [PsV, Act.eval] at et164;have n9_8 := hF.notYet 2 8 hl (by kernel_rfl);have n9 := hF.notYet 8 9 n9_8 (by kernel_rfl);have hW' := hW;unfold PsW at hW';rw [if_neg (by simp [n9])] at hW';subst hW';obtain ⟨d0, d5, e1, q1, zx, zt⟩ := HE.out;exact ⟨by unfold PsW; rw [if_neg (by simp [upd, n9])], _, by go_simp, rfl⟩
    · refine sP_ fun sg ly a wr hl hd hW hF => ?_;simp [Region.binds] at hd;have et163 := hF.new 0 163 (by simp [hd]) rfl;simp [PsV, Act.eval] at et163;have et165 := hF.new 2 165 (by simp [hd]) rfl;simp [PsV, Act.eval] at et165;exact ⟨by simpa [PsW, upd] using hW, .pointer (some ⟨tb, k, none⟩), by go_simp, rfl⟩
    · refine sP_ fun sg ly a wr hl hd hW hF => ?_;simp [Region.binds] at hd;have et166 := hF.new 3 166 (by simp [hd]) rfl;simp [PsV, Act.eval] at et166;have n9_7 := hF.notYet 4 7 hl (by kernel_rfl);have n9 := hF.notYet 7 9 n9_7 (by kernel_rfl);have hW' := hW;unfold PsW at hW';rw [if_neg (by simp [n9])] at hW';subst hW';obtain ⟨d0, d5, e1, q1, zx, zt⟩ := HE.out;exact ⟨by unfold PsW; rw [if_neg (by simp [upd, n9])], _, by go_simp, rfl⟩
    · refine sP_ fun sg ly a wr hl hd hW hF => ?_;have et20 := hF.old 20 (by kernel_rfl);simp [Act.eval] at et20;exact ⟨by simpa [PsW, upd] using hW, .pointer (some ⟨xb, 2, none⟩), by go_simp, rfl⟩
    · refine sP_ fun sg ly a wr hl hd hW hF => ?_;simp [Region.binds] at hd;have et168 := hF.new 5 168 (by simp [hd]) rfl;simp [PsV, Act.eval] at et168;have n9_7 := hF.notYet 6 7 hl (by kernel_rfl);have n9 := hF.notYet 7 9 n9_7 (by kernel_rfl);have hW' := hW;unfold PsW at hW';rw [if_neg (by simp [n9])] at hW';subst hW';obtain ⟨d0, d5, e1, q1, zx, zt⟩ := HE.out;exact ⟨by unfold PsW; rw [if_neg (by simp [upd, n9])], _, by go_simp, rfl⟩
    · refine sP_ fun sg ly a wr hl hd hW hF => ?_;simp [Region.binds] at hd;have et167 := hF.new 4 167 (by simp [hd]) rfl;simp [PsV, Act.eval] at et167;have et169 := hF.new 6 169 (by simp [hd]) rfl;simp [PsV, Act.eval] at et169;have ew := IntWalk.i64_in (x + tg) (by omega);exact ⟨by simpa [PsW, upd] using hW, .int .i64 (x + tg), by go_simp, rfl⟩
    · refine sP_ fun sg ly a wr hl hd hW hF => ?_;simp [Region.binds] at hd;have et163 := hF.new 0 163 (by simp [hd]) rfl;simp [PsV, Act.eval] at et163;have et165 := hF.new 2 165 (by simp [hd]) rfl;simp [PsV, Act.eval] at et165;exact ⟨by simpa [PsW, upd] using hW, .pointer (some ⟨tb, k, none⟩), by go_simp, rfl⟩
    · refine sS_ rfl fun sg ly a wr hl hd hW hF => ?_;simp [Region.binds] at hd;have et171 := hF.new 8 171 (by simp [hd]) rfl;simp [PsV, Act.eval] at et171;have et170 := hF.new 7 170 (by simp [hd]) rfl;simp [PsV, Act.eval] at et170;have hW' := hW;unfold PsW at hW';rw [if_neg (by simp [hl])] at hW';subst hW';obtain ⟨d0, d5, e1, q1, zx, zt⟩ := HE.out;refine ⟨(W2.setCell ⟨tb, k, none⟩ (.int .i64 (x + tg))).drew, (), .skip, by go_simp, .inl rfl, by unfold PsW; rw [if_pos (by simp [upd])], fun _ _ _ h => h⟩
  intro _ a w3 hWW hF;obtain ⟨f3, hf3, rfl⟩ := hF.lit;have hw3 : w3 = (W2.setCell ⟨tb, k, none⟩ (.int .i64 (x + tg))).drew := by
    have h5 := hWW;unfold PsW at h5
    rwa [if_pos (by simp)] at h5
  have S3 : PlSt W0 w3 mb tb wb H ⟨setI t.tugs k (x + tg), t.twice, t.hits⟩ := by rw [hw3]; exact HS.out.1.tug _ hk ⟨HN.out.1, HN.out.2.2⟩
  have H3 := Lib.hid S3;clear hf3 hF hWW hw3 HE S3;simp only [List.filterMap, List.foldl, List.setIfInBounds_toArray, List.set_cons_succ, List.set_cons_zero];go_wp2_with fail
  refine HI.out _ _ _ _ _ _ _ _ _ _ _ _ _ _ _ ?_;rw [addSwp, ← HS.out.2];exact H3.out
def falses (n : Nat) : Array Value := (List.replicate n (Value.bool false)).toArray
theorem run_make_bools {P : Program} (t e : TypeId) (i : TypeInfo) (ht : P.underlying t = some (.slice e)) (hi : P.info? e = some i) (hz : i.zero = some (.bool false)) (hsize : i.size = 1) (hby : i.bytes = 1) (n : Nat) (hn : n ≤ 1000000) (w : World) :
    (Instr.makeSlice t (.int .i64 (n : Int)) (.int .i64 (n : Int))).run P w = .ok (.slice (some ⟨w.heap.size, 0, none⟩) n n) (w.alloc (.cells (falses n) e)) := by
  have hr := run_make (P := P) w t e i (.bool false) ht hi hz .i64 .i64 n n (by omega) (Int.le_refl _) (by rw [hby]; omega) (by omega);simp only [Int.toNat_natCast, hsize, Nat.mul_one] at hr;rw [hr]
  congr 3
  apply Array.ext';rw [show (Value.bool false).cells = #[Value.bool false] from rfl, toList_madeCells_one];simp [falses]
theorem info_boolP : (Tryz.prog.info? 4).map (fun i => (i.zero, i.size, i.bytes)) = some (some (.bool false), 1, 1) := by kernel_rfl
theorem info_intP : (Tryz.prog.info? 3).map (fun i => (i.zero, i.size, i.bytes)) = some (some (.int .i64 0), 1, 8) := by kernel_rfl
def PmV (W0 : World) (lb H : Nat) (s : Nat × Nat) : Nat → Value → Prop
  | 0, v => v = .pointer (some ⟨lb, 0, none⟩)
  | 1, v => v = .int .i64 H
  | 2, v => v = .slice (some ⟨s.1, 0, none⟩) H H
  | 3, v => v = .pointer (some ⟨lb, 0, none⟩)
  | 4, v => v = .int .i64 H
  | 5, v => v = .slice (some ⟨s.2, 0, none⟩) H H
  | 6, v => v = .slice (some ⟨s.1, 0, none⟩) H H
  | 7, v => v = .slice (some ⟨s.2, 0, none⟩) H H
  | _, _ => True
def PmW (W0 : World) (lb H : Nat) (s : Nat × Nat) (l : Nat → Bool) (w : World) : Prop := Keep [] W0 w ∧ (l 2 = true → w.heap[s.1]? = some (.cells (noughts H) 3 (0, 0)) ∧ W0.heap.size ≤ s.1) ∧ (l 5 = true → w.heap[s.2]? = some (.cells (falses H) 4 (0, 0)) ∧ W0.heap.size ≤ s.2)
theorem plTail {Q0 : Exit → Act → World → Prop} {w w0 : World} {pb lb H cb cc cl cs D : Nat} {Ac Ab Al As : Option Addr} {pr : Prt} {pl : Pln} (bw : Below w.heap.size w w0) (hp : w0.heap[pb]? = some (.cells (prtV Ac cc Ab cb pr) 25 (0, 0))) (hlb : w0.heap[lb]? = some (.cells (plnV Al cl As cs pl) 35 (0, 0))) (PB : PrtB D w0 Ac cc Ab cb pr) (LB : PlnB D w0 Al cl As cs pl) (hD : D ≤ w0.heap.size) (pv : PVal pr) (hH : pl.hours = (H : Int)) (hHr : 1 ≤ H ∧ H ≤ 100) (hn : pl.calls.length ≤ 60 ∧ pl.swps.length ≤ 200)
    (hca : ∀ c ∈ pl.calls, 0 ≤ c.berth ∧ c.berth < pr.bts.length ∧ 0 ≤ c.most ∧ c.most ≤ 1000000 ∧ 0 ≤ c.tugs ∧ c.tugs ≤ 20 ∧ 10 ≤ c.draught ∧ c.draught ≤ (bt pr c.berth).depth ∧ 0 ≤ c.hour ∧ c.hour < pl.hours ∧ 0 ≤ c.hour) (hsw : ∀ s ∈ pl.swps, 0 ≤ s.channel ∧ s.channel < pr.chs.length ∧ 1 ≤ s.tugs ∧ s.tugs ≤ 20 ∧ 0 ≤ s.hour ∧ s.hour < pl.hours) {s0 s1 s4 s5 s6 s7 s8 s9 s10 s11 s12 s13 s14 s15 s16 s17 s18 s19 s20 s21 s22 s23 s24 s25 s26 s27 s28 s29 s30 s31 s32 s33 s34 s35 s36 s37 s38 s39 s40 s41 s42 s43 s44 s45 s46 s47 s48 s49 s50 s51 s52 s53 s54 s55 s56 s57 s58 s59 s60 s61 s62 s63 s64 s65 s66 s67 s68 s69 s70 s71 s72 s73 s74 s75 s76 s77 s78 s79 s80 s81 s82 s83 s84 s85 s86 s87 s88 s89 s90 s91 s92 s93 s94 s95 s96 s97 s98 s99 s100 s101 s102 s103 s104 s105 s106 s107 s108 s109 s110 s111 s112 s113 s114 s115 s116 s117 s118 s119 s120 s121 s122 s123 s124 s125 s126 s127 s128 s129 s130 s131 s132 s133 s134 s135 s136 s137 s138 s139 s140 s141 s142 s143 s144 s145 s146 s147 s148 s149 s150 s151 s152 s153 s154 s155 s156 s157 s158 s159 s160 s161 s162 s163 s164 s165 s166 s167 s168 s169 s170 s171 s172 s173 s174 s175 s176 s177 s178 s179 s180 s181 s182 s183 s184 s185 s186 s187 s188 s189 s190 : Value} (hQ0 : ∀ e1 a1 w1, bodyPost Tryz.prog Tryz.f56 (fun e w' => e = .returned (.int .i64 (finE pr.tugs (pl.swps.foldl addSwp (tlyCalls pr H pl.calls).tugs) (tlyCalls pr H pl.calls).twice 0 H)) ∧ Below w.heap.size w w') e1 a1 w1 → Q0 e1 a1 w1) :
    Code.wp Tryz.prog (restOf Tryz.f56 25) Q0 ⟨#[s0, s1, .pointer (some ⟨pb, 0, none⟩), .pointer (some ⟨lb, 0, none⟩), s4, s5, s6, s7, s8, s9, s10, s11, s12, s13, s14, s15, s16, s17, s18, s19, s20, s21, s22, s23, s24, s25, s26, s27, s28, s29, s30, s31, s32, s33, s34, s35, s36, s37, s38, s39, s40, s41, s42, s43, s44, s45, s46, s47, s48, s49, s50, s51, s52, s53, s54, s55, s56, s57, s58, s59, s60, s61, s62, s63, s64, s65, s66, s67, s68, s69, s70, s71, s72, s73, s74, s75, s76, s77, s78, s79, s80, s81, s82, s83, s84, s85, s86, s87, s88, s89, s90, s91, s92, s93, s94, s95, s96, s97, s98, s99, s100, s101, s102, s103, s104, s105, s106, s107, s108, s109, s110, s111, s112, s113, s114, s115, s116, s117, s118, s119, s120, s121, s122, s123, s124, s125, s126, s127, s128, s129, s130, s131, s132, s133, s134, s135, s136, s137, s138, s139, s140, s141, s142, s143, s144, s145, s146, s147, s148, s149, s150, s151, s152, s153, s154, s155, s156, s157, s158, s159, s160, s161, s162, s163, s164, s165, s166, s167, s168, s169, s170, s171, s172, s173, s174, s175, s176, s177, s178, s179, s180, s181, s182, s183, s184, s185, s186, s187, s188, s189, s190], []⟩ w0 := by
  refine wp_mono ?_ hQ0;clear hQ0
  conv => arg 2; whnf
  obtain ⟨iI, hI, hI0, hI1, hI2⟩ := info_parts info_intP;obtain ⟨iB, hB, hB0, hB1, hB2⟩ := info_parts info_boolP;have hll := hL_ hlb;obtain ⟨W1, hW1⟩ : ∃ W1, W1 = w0.alloc (.map #[] 0) := ⟨_, rfl⟩;obtain ⟨mb, hmb⟩ : ∃ mb, mb = w0.heap.size := ⟨_, rfl⟩;have M1 : MapI Tryz.prog 165 W1 mb 0 (fun _ => 0) := by rw [hW1, hmb]; exact MapI.made _
  have b1 : Below w0.heap.size w0 W1 := by rw [hW1]; exact (Below.refl _ _).alloc (Nat.le_refl _) _
  have hl1 := (b1.block _ hll).trans hlb;have hmbs : w0.heap.size ≤ mb ∧ mb < W1.heap.size := ⟨by omega, M1.lt⟩;have HL := Lib.hid (show W1.cell? ⟨lb, 0, none⟩ = some (.int .i64 H) from by rw [← hH]; exact (cOH hl1 0).trans rfl);have zl := hL_ hl1;have H0 := Lib.hid (And.intro bw (And.intro hp (And.intro PB (And.intro LB (And.intro pv (And.intro hca (And.intro hsw (And.intro hlb (And.intro M1 b1)))))))));have HH := Lib.hid hH;have hmm : (Instr.makeMap 164 none).run Tryz.prog w0 = .ok (.map (some w0.heap.size)) (w0.alloc (.map #[] 0)) := run_makeMap ..;clear bw hp PB LB pv hca hsw hlb M1 b1 hl1 hH;go_upto_region 26 with fail
  rw [← hW1, ← hmb];clear hW1 hmb;refine wRS (σ := Nat × Nat) (by kernel_rfl) (by kernel_rfl) (fun sg jx vx _ => PmV W1 lb H sg jx vx) (fun sg ly wx => PmW W1 lb H sg ly wx) (0, 0) ?_ ?_ ?_
  · exact ⟨(Keep.refl _ _).drew, (fun h => absurd h (by simp)), (fun h => absurd h (by simp))⟩
  · simp only [AllFrom, Nat.zero_add, Nat.reduceAdd];refine ⟨?_, ?_, ?_, ?_, ?_, ?_, ?_, ?_, trivial⟩
    · refine sP_ fun sg ly a wr hl hd hW hF => ?_;have et3 := hF.old 3 (by kernel_rfl);simp [Act.eval] at et3;exact ⟨by simpa [PmW, upd] using hW, .pointer (some ⟨lb, 0, none⟩), by go_simp, rfl⟩
    · refine sP_ fun sg ly a wr hl hd hW hF => ?_;simp [Region.binds] at hd;have et93 := hF.new 0 93 (by simp [hd]) rfl;simp [PmV, Act.eval] at et93;have c0 := hW.1.cell HL.out (by simp);exact ⟨by simpa [PmW, upd] using hW, _, by go_simp, rfl⟩
    · refine sR_ fun sg ly a wr hl hd hW hF => ?_;simp [Region.binds] at hd;have et94 := hF.new 1 94 (by simp [hd]) rfl;simp [PmV, Act.eval] at et94;have n6 := hF.notYet 2 6 hl (by kernel_rfl);have hmk := run_make_ints (P := Tryz.prog) 36 iI Tryz.underlying36 hI hI0 hI1 hI2 H (by omega) wr;refine ⟨_, wr.alloc (.cells (noughts H) 3), (wr.heap.size, sg.2), by go_simp, ⟨hW.1.alloc _, fun _ => ⟨heap_alloc_new _ _, hW.1.size⟩, fun h => ⟨hA_ (hW.2.2 (by simpa [upd] using h)).1 _, (hW.2.2 (by simpa [upd] using h)).2⟩⟩, rfl, ?_⟩;intro i u hi h;have i2 : i ≠ 2 := by rintro rfl; rw [hl] at hi; cases hi
      have i16 : i ≠ 6 := by rintro rfl; rw [n6] at hi; cases hi
      unfold PmV at h ⊢;split at h <;> first | exact h | exact absurd rfl i2 | exact absurd rfl i16
    · refine sP_ fun sg ly a wr hl hd hW hF => ?_;have et3 := hF.old 3 (by kernel_rfl);simp [Act.eval] at et3;exact ⟨by simpa [PmW, upd] using hW, .pointer (some ⟨lb, 0, none⟩), by go_simp, rfl⟩
    · refine sP_ fun sg ly a wr hl hd hW hF => ?_;simp [Region.binds] at hd;have et96 := hF.new 3 96 (by simp [hd]) rfl;simp [PmV, Act.eval] at et96;have c0 := hW.1.cell HL.out (by simp);exact ⟨by simpa [PmW, upd] using hW, _, by go_simp, rfl⟩
    · refine sR_ fun sg ly a wr hl hd hW hF => ?_;simp [Region.binds] at hd;have et97 := hF.new 4 97 (by simp [hd]) rfl;simp [PmV, Act.eval] at et97;have n7 := hF.notYet 5 7 hl (by kernel_rfl);have hmk := run_make_bools (P := Tryz.prog) 37 4 iB Tryz.underlying37 hB hB0 hB1 hB2 H (by omega) wr;refine ⟨_, wr.alloc (.cells (falses H) 4), (sg.1, wr.heap.size), by go_simp, ⟨hW.1.alloc _, fun h => ⟨hA_ (hW.2.1 (by simpa [upd] using h)).1 _, (hW.2.1 (by simpa [upd] using h)).2⟩, fun _ => ⟨heap_alloc_new _ _, hW.1.size⟩⟩, rfl, ?_⟩;intro i u hi h;have i2 : i ≠ 5 := by rintro rfl; rw [hl] at hi; cases hi
      have i17 : i ≠ 7 := by rintro rfl; rw [n7] at hi; cases hi
      unfold PmV at h ⊢;split at h <;> first | exact h | exact absurd rfl i2 | exact absurd rfl i17
    · refine sP_ fun sg ly a wr hl hd hW hF => ?_;simp [Region.binds] at hd;have et95 := hF.new 2 95 (by simp [hd]) rfl;simp [PmV, Act.eval] at et95;exact ⟨by simpa [PmW, upd] using hW, .slice (some ⟨sg.1, 0, none⟩) H H, by go_simp, rfl⟩
    · refine sP_ fun sg ly a wr hl hd hW hF => ?_;simp [Region.binds] at hd;have et98 := hF.new 5 98 (by simp [hd]) rfl;simp [PmV, Act.eval] at et98;exact ⟨by simpa [PmW, upd] using hW, .slice (some ⟨sg.2, 0, none⟩) H H, by go_simp, rfl⟩
  intro sg a w4 hWW hF;have e13 := hF.new 6 13 (by decide) rfl;have e14 := hF.new 7 14 (by decide) rfl;obtain ⟨f4, hf4, rfl⟩ := hF.lit;rw [← hf4] at e13 e14;simp only [PmV] at e13 e14;obtain ⟨k4, u4, v4⟩ := hWW;obtain ⟨t4, t4'⟩ := u4 (by simp);obtain ⟨b4, b4'⟩ := v4 (by simp);clear u4 v4;obtain ⟨tb, wb⟩ := sg;simp only at t4 t4' b4 b4' e13 e14;have hne : mb ≠ tb ∧ mb ≠ wb ∧ tb ≠ wb := ⟨by omega, by omega, by rintro rfl; rw [t4] at b4; injection b4 with b4; injection b4 with _ b4; exact absurd b4 (by decide)⟩;have S4 : PlSt w4 w4 mb tb wb H (tly0 H) := ⟨Keep.refl _ _, by rw [t4]; simp [noughts, tly0, ints], by simp [tly0], by rw [b4]; simp [falses, tly0, bools], by simp [tly0], (H0.out.2.2.2.2.2.2.2.2.1.of_heap (k4.block _ hmbs.2 (by simp))).congr (fun v => by rw [show (tly0 H).hits = [] from rfl, cntV_nil])⟩;have B4 : Below w0.heap.size w0 w4 := H0.out.2.2.2.2.2.2.2.2.2.trans (k4.below (by omega) (by simp));have H4 := Lib.hid (And.intro S4 (And.intro hne B4));have hD4 : D ≤ mb ∧ D ≤ tb ∧ D ≤ wb ∧ D ≤ w4.heap.size := ⟨by omega, by omega, by omega, by have := B4.size; omega⟩;have htbs : w0.heap.size ≤ tb ∧ w0.heap.size ≤ wb := ⟨by omega, by omega⟩;clear hf4 hF k4 t4 t4' b4 b4' hne S4 B4 HL zl;simp only [List.filterMap, List.foldl, List.setIfInBounds_toArray, List.set_cons_succ, List.set_cons_zero, e13, e14];clear e13 e14;have hp4 := (H4.out.2.2.block _ (hL_ H0.out.2.1)).trans H0.out.2.1;have hl4 := (H4.out.2.2.block _ (hL_ H0.out.2.2.2.2.2.2.2.1)).trans H0.out.2.2.2.2.2.2.2.1;have PB4 := H0.out.2.2.1.below (H4.out.2.2.mono hD);have LB4 := H0.out.2.2.2.1.below (H4.out.2.2.mono hD);have hpn : pb ∉ [mb, tb, wb] := by have := hL_ H0.out.2.1; simp; omega
  have hln : lb ∉ [mb, tb, wb] := by simp; omega
  have l1 : w4.cell? ⟨lb, 1, none⟩ = some (.slice Al pl.calls.length cl) := (cOH hl4 1).trans rfl;have zl := hL_ hl4;have P4 := Lib.hid (And.intro hp4 (And.intro hl4 (And.intro PB4 (And.intro LB4 (And.intro hpn hln)))));clear hp4 hl4 PB4 LB4 hpn hln;obtain ⟨L, hL⟩ : ∃ L, L = pl.calls.length := ⟨_, rfl⟩;have hL60 : L ≤ 60 := by omega
  rw [← hL] at l1;have HLL := Lib.hid hL;clear hL;go_wp2_with fail
  go_loopw [102] (fun q wq => ∃ i : Nat, i ≤ L ∧ q = .int .i64 i ∧ PlSt w4 wq mb tb wb H ((pl.calls.take i).foldl (tlyCall pr) (tly0 H))) (fun q _ => L - (intOf q).toNat)
  case atStart => exact ⟨0, Nat.zero_le _, rfl, H4.out.1⟩
  case round =>
    obtain ⟨i, hi, rfl, hS⟩ := hrel;by_cases hlt : i < L
    · have hil : i < pl.calls.length := by rw [← HLL.out]; exact hlt
      have hget : pl.calls.getD i default ∈ pl.calls := by rw [List.getD_eq_getElem?_getD, List.getElem?_eq_getElem hil]; exact List.getElem_mem hil
      have hc := H0.out.2.2.2.2.2.1 _ hget;have hHH := HH.out;have LBc := P4.out.2.2.2.1.calls;rw [← HLL.out] at LBc;have hbd := tly_bd pr (pl.calls.take i) (tly0 H) 0 (fun j => by rw [tly0_get]; omega) (fun c hcm => by have := H0.out.2.2.2.2.2.1 c (List.mem_of_mem_take hcm); omega);have hhit : ((pl.calls.take i).foldl (tlyCall pr) (tly0 H)).hits.length ≤ 6 * i := by
        have : ∀ (l : List Cal) (t : Tly), (∀ c ∈ l, c ∈ pl.calls) → (l.foldl (tlyCall pr) t).hits.length ≤ t.hits.length + 6 * l.length := by
          intro l;induction l with
          | nil => intro t _; exact Nat.le_refl _
          | cons c l ih =>
            intro t hm;have hc2 := H0.out.2.2.2.2.2.1 c (hm c (by simp));have hb := (H0.out.2.2.2.2.1.btf _ (bt_mem hc2.1 hc2.2.1)).2.2.2;have h6 : (bt pr c.berth).path.length ≤ 6 := by
              have hpl := nodup_range_le hb.1 hb.2;have := H0.out.2.2.2.2.1.nc;omega
            have := ih (tlyCall pr t c) (fun x hx => hm x (by simp [hx]));rw [List.foldl_cons, List.length_cons];have e : (tlyCall pr t c).hits.length = t.hits.length + (bt pr c.berth).path.length := by rw [tlyCall, hits_hit1]
            omega
        have := this (pl.calls.take i) (tly0 H) (fun c hcm => List.mem_of_mem_take hcm);rw [List.length_take] at this;have h0 : (tly0 H).hits.length = 0 := rfl;rw [h0] at this;omega
      refine plOut (D := D) hS P4.out.1 P4.out.2.2.2.2.1 P4.out.2.2.1.bts hD4 LBc HLL.out.symm hlt (by omega) ⟨hc.1, hc.2.1, by omega, by omega, by omega, by omega⟩ (fun b hb => ?_) (by have := H0.out.2.2.2.2.1.nb; omega) (by omega) (by omega) (fun k => by have := hbd k; rw [List.length_take] at this; omega) H4.out.2.1 ?_
      · have hb2 := H0.out.2.2.2.2.1.btf b hb;have := H0.out.2.2.2.2.1.nc;have := nodup_range_le hb2.2.2.2.1 hb2.2.2.2.2;exact ⟨by omega, fun y hy => by have := hb2.2.2.2.2 y hy; omega⟩
      intro _ _ _ _ _ _ _ _ _ _ _ _ _ _ _ _ _ _ _ _ _ _ _ _ _ _ _ _ _ _ _ _ _ _ _ _ _ _ _ _ _ _ _ _ _ _ _ _ _ _ _ _ _ _ _ w' hr;refine ⟨?_, by simp [intOf]; omega⟩
      repeat apply Exists.intro
      refine ⟨?_, rfl⟩;refine ⟨i + 1, by omega, by go_num, ?_⟩;have e0 : (pl.calls.take (i + 1)) = pl.calls.take i ++ [pl.calls.getD i default] := by rw [List.take_succ_eq_append_getElem hil, List.getD_eq_getElem?_getD, List.getElem?_eq_getElem hil]; rfl
      rw [e0, List.foldl_append];exact hr
    · obtain rfl : i = L := by omega
      have hS5 : PlSt w4 wr mb tb wb H (tlyCalls pr H pl.calls) := by rw [HLL.out, List.take_length] at hS; exact hS
      obtain ⟨t5, ht5⟩ : ∃ t, t = tlyCalls pr H pl.calls := ⟨_, rfl⟩;rw [← ht5] at hS5;have bd5 : ∀ j, -1200 ≤ getI t5.tugs j ∧ getI t5.tugs j ≤ 1200 := fun j => by
        have := tly_bd pr pl.calls (tly0 H) 0 (fun j => by rw [tly0_get]; omega) (fun c hcm => by have := H0.out.2.2.2.2.2.1 c hcm; omega) j;rw [ht5, tlyCalls];omega
      obtain ⟨w5, rfl⟩ : ∃ w5, w5 = wr := ⟨_, rfl⟩;have hl5 := (hS5.kp.block _ (hL_ P4.out.2.1) P4.out.2.2.2.2.2).trans P4.out.2.1;have l2 : w5.cell? ⟨lb, 2, none⟩ = some (.slice As pl.swps.length cs) := (cOH hl5 2).trans rfl;have zl5 := hL_ hl5;obtain ⟨M, hM⟩ : ∃ M, M = pl.swps.length := ⟨_, rfl⟩;have hM200 : M ≤ 200 := by omega
      rw [← hM] at l2;have H5 := Lib.hid (And.intro hS5 (And.intro ht5 (And.intro bd5 hM)));clear hS hS5 ht5 bd5 hM hl5 l1 zl;go_wp2_with fail
      go_loopw [159] (fun q wq => ∃ i : Nat, i ≤ M ∧ q = .int .i64 i ∧ PlSt w4 wq mb tb wb H ⟨(pl.swps.take i).foldl addSwp t5.tugs, t5.twice, t5.hits⟩) (fun q _ => M - (intOf q).toNat)
      case atStart => exact ⟨0, Nat.zero_le _, rfl, H5.out.1⟩
      case round =>
        obtain ⟨i, hi, rfl, hS⟩ := hrel;by_cases hlt : i < M
        · have hil : i < pl.swps.length := by rw [← H5.out.2.2.2]; exact hlt
          have hget : pl.swps.getD i default ∈ pl.swps := by rw [List.getD_eq_getElem?_getD, List.getElem?_eq_getElem hil]; exact List.getElem_mem hil
          have hc := H0.out.2.2.2.2.2.2.1 _ hget;have hHH := HH.out;have LBs := P4.out.2.2.2.1.swps;rw [← H5.out.2.2.2] at LBs;have hbd := swp_bd (pl.swps.take i) t5.tugs 1200 H5.out.2.2.1 (fun c hcm => by have := H0.out.2.2.2.2.2.2.1 c (List.mem_of_mem_take hcm); omega);refine plSw (D := D) hS hD4 LBs H5.out.2.2.2.symm hlt (by omega) ⟨by omega, by omega, by omega, by omega⟩ (by omega) (fun k => by have := hbd k; rw [List.length_take] at this; simp only; omega) H4.out.2.1 ?_;intro _ _ _ _ _ _ _ _ _ _ _ _ _ _ w' hr;refine ⟨?_, by simp [intOf]; omega⟩
          repeat apply Exists.intro
          refine ⟨?_, rfl⟩;refine ⟨i + 1, by omega, by go_num, ?_⟩;have e0 : (pl.swps.take (i + 1)) = pl.swps.take i ++ [pl.swps.getD i default] := by rw [List.take_succ_eq_append_getElem hil, List.getD_eq_getElem?_getD, List.getElem?_eq_getElem hil]; rfl
          rw [e0, List.foldl_append];exact hr
        · obtain rfl : i = M := by omega
          obtain ⟨ts, hts⟩ : ∃ ts, ts = pl.swps.foldl addSwp (tlyCalls pr H pl.calls).tugs := ⟨_, rfl⟩;obtain ⟨tw, htw⟩ : ∃ tw, tw = (tlyCalls pr H pl.calls).twice := ⟨_, rfl⟩;have S6 : PlSt w4 wr mb tb wb H ⟨ts, tw, t5.hits⟩ := by
            rw [H5.out.2.2.2, List.take_length, H5.out.2.1] at hS;rw [hts, htw, H5.out.2.1]; exact hS
          obtain ⟨w6, rfl⟩ : ∃ w6, w6 = wr := ⟨_, rfl⟩;have hp6 := (S6.kp.block _ (hL_ P4.out.1) P4.out.2.2.2.2.1).trans P4.out.1;have p2 : w6.cell? ⟨pb, 2, none⟩ = some (.int .i64 pr.tugs) := (cOH hp6 2).trans rfl;have zp := hL_ hp6;have zt := hL_ S6.tg;have zw := hL_ S6.wg;have b6 : Below w.heap.size w w6 := H0.out.1.trans ((H4.out.2.2.trans (S6.kp.below H4.out.2.2.size (by simp; omega))).mono H0.out.1.size);obtain ⟨R, hR⟩ : ∃ R, R = finE pr.tugs ts tw 0 H := ⟨_, rfl⟩;have hRR : finE pr.tugs (pl.swps.foldl addSwp (tlyCalls pr H pl.calls).tugs) (tlyCalls pr H pl.calls).twice 0 H = R := by rw [hR, hts, htw]
          have tc : ∀ k, k < H → w6.cell? ⟨tb, k, none⟩ = some (.int .i64 (ts.getD k 0)) ∧ w6.cell? ⟨wb, k, none⟩ = some (.bool (tw.getD k false)) := fun k hk => ⟨by
            rw [cOH S6.tg, List.getElem?_toArray];exact iG_ (show k < ts.length by have : ts.length = H := S6.tl; omega), by
            rw [cOH S6.wg, List.getElem?_toArray];exact bools_get (show k < tw.length by have : tw.length = H := S6.wl; omega)⟩
          have H6 := Lib.hid (And.intro b6 (And.intro hR (And.intro hRR tc)));clear hS S6 hts htw hp6 b6 hR hRR tc l2 zl5;go_wp2_with fail
          go_loopg [175] (H) (fun g i wr => ∃ k : Nat, g + k = H ∧ i = .int .i64 k ∧ R = finE pr.tugs ts tw k (H - k) ∧ w6 = wr)
          case atStart => exact ⟨0, rfl, rfl, H6.out.2.1, rfl⟩
          case round =>
            obtain ⟨k, hk, rfl, hRk, rfl⟩ := hrel;by_cases hlt : k < H
            · obtain ⟨c0, c1⟩ := H6.out.2.2.2 k hlt;have hfe : finE pr.tugs ts tw k (H - k) = if tw.getD k false then 10 else if pr.tugs < ts.getD k 0 then 9 else finE pr.tugs ts tw (k + 1) (H - (k + 1)) := by
                rw [show H - k = (H - (k + 1)) + 1 from by omega, finE]
              rw [hfe] at hRk;generalize ts.getD k 0 = x at *;generalize tw.getD k false = y at *;have HR := Lib.hid hRk;clear hRk hfe;cases y
              · go_wp2_with fail
                · go_ret;exact ⟨by rw [H6.out.2.2.1, HR.out]; simp [*], H6.out.1⟩
                · go_roundg (gk - 1);case measure => omega
                  case rel => exact ⟨k + 1, by omega, by go_num, by rw [HR.out]; simp; omega, rfl⟩
              · go_wp2_with fail
                go_ret;exact ⟨by rw [H6.out.2.2.1, HR.out]; rfl, H6.out.1⟩
            · obtain rfl : k = H := by omega
              have HR := Lib.hid hRk;clear hRk;go_wp2_with fail
              go_ret;exact ⟨by rw [H6.out.2.2.1, HR.out, Nat.sub_self]; rfl, H6.out.1⟩
theorem plX2 {m : Nat} {s0 s1 s2 s3 s4 s5 s6 s7 s8 s9 s10 s11 s12 s13 s14 s15 s16 s17 s18 s19 s20 s21 s22 s23 s24 s25 s26 s27 s28 s29 s30 s31 s32 s33 s34 s35 s36 s37 s38 s39 s40 s41 s42 s43 s44 s45 s46 s47 s48 s49 s50 s51 s52 s53 s54 s55 s56 s57 s58 s59 s60 s61 s62 s65 s66 s67 s68 s69 s70 s71 s72 s73 s74 s75 s76 s77 s78 s79 s80 s81 s82 s83 s84 s85 s86 s87 s88 s89 s90 s91 s92 s93 s94 s95 s96 s97 s98 s99 s100 s101 s102 s103 s104 s105 s106 s107 s108 s109 s110 s111 s112 s113 s114 s115 s116 s117 s118 s119 s120 s121 s122 s123 s124 s125 s126 s127 s128 s129 s130 s131 s132 s133 s134 s135 s136 s137 s138 s139 s140 s141 s142 s143 s144 s145 s146 s147 s148 s149 s150 s151 s152 s153 s154 s155 s156 s157 s158 s159 s160 s161 s162 s163 s164 s165 s166 s167 s168 s169 s170 s171 s172 s173 s174 s175 s176 s177 s178 s179 s180 s181 s182 s183 s184 s185 s186 s187 s188 s189 s190 : Value} {Q0 : Exit → Act → World → Prop} {Inv : Act → World → Prop} {w : World}
    (hQ : Q0 (.exit 3) ⟨#[s0, s1, s2, s3, s4, s5, s6, s7, s8, s9, s10, s11, s12, s13, s14, s15, s16, s17, s18, s19, s20, s21, s22, s23, s24, s25, s26, s27, s28, s29, s30, s31, s32, s33, s34, s35, s36, s37, s38, s39, s40, s41, s42, s43, s44, s45, s46, s47, s48, s49, s50, s51, s52, s53, s54, s55, s56, s57, s58, s59, s60, s61, s62, .int .i64 m, .int .i64 m, .bool false, s66, s67, s68, s69, s70, s71, s72, s73, s74, s75, s76, s77, s78, s79, s80, s81, s82, s83, s84, s85, s86, s87, s88, s89, s90, s91, s92, s93, s94, s95, s96, s97, s98, s99, s100, s101, s102, s103, s104, s105, s106, s107, s108, s109, s110, s111, s112, s113, s114, s115, s116, s117, s118, s119, s120, s121, s122, s123, s124, s125, s126, s127, s128, s129, s130, s131, s132, s133, s134, s135, s136, s137, s138, s139, s140, s141, s142, s143, s144, s145, s146, s147, s148, s149, s150, s151, s152, s153, s154, s155, s156, s157, s158, s159, s160, s161, s162, s163, s164, s165, s166, s167, s168, s169, s170, s171, s172, s173, s174, s175, s176, s177, s178, s179, s180, s181, s182, s183, s184, s185, s186, s187, s188, s189, s190], []⟩ w) :
    Code.wp Tryz.prog (loopBody Tryz.f56 1) (Exit.then Inv Q0) ⟨#[s0, s1, s2, s3, s4, s5, s6, s7, s8, s9, s10, s11, s12, s13, s14, s15, s16, s17, s18, s19, s20, s21, s22, s23, s24, s25, s26, s27, s28, s29, s30, s31, s32, s33, s34, s35, s36, s37, s38, s39, s40, s41, s42, s43, s44, s45, s46, s47, s48, s49, s50, s51, s52, s53, s54, s55, s56, s57, s58, s59, s60, s61, s62, .int .i64 m, .int .i64 m, s65, s66, s67, s68, s69, s70, s71, s72, s73, s74, s75, s76, s77, s78, s79, s80, s81, s82, s83, s84, s85, s86, s87, s88, s89, s90, s91, s92, s93, s94, s95, s96, s97, s98, s99, s100, s101, s102, s103, s104, s105, s106, s107, s108, s109, s110, s111, s112, s113, s114, s115, s116, s117, s118, s119, s120, s121, s122, s123, s124, s125, s126, s127, s128, s129, s130, s131, s132, s133, s134, s135, s136, s137, s138, s139, s140, s141, s142, s143, s144, s145, s146, s147, s148, s149, s150, s151, s152, s153, s154, s155, s156, s157, s158, s159, s160, s161, s162, s163, s164, s165, s166, s167, s168, s169, s170, s171, s172, s173, s174, s175, s176, s177, s178, s179, s180, s181, s182, s183, s184, s185, s186, s187, s188, s189, s190], []⟩ w := by
  conv => arg 2; whnf
  have h : ¬ (m : Int) < (m : Int) := by omega
  have HQ := Lib.hid hQ;clear hQ;go_wp2_with fail
  exact HQ.out
end Go.Proofs.YtalcinepeofmcaaGreat
namespace Go.Proofs.YtalcinepeofmcaaGreat
open Go Go.RowKit Go.WideMaps Sp Pt
theorem checkL_1 {p : Prt} {l : Pln} {e : Int} (h : checkP p = e) (h0 : e ≠ 0) : checkL p l = e := by unfold checkL; rw [if_pos (by rw [h]; exact h0), h]
theorem checkL_2 {p : Prt} {l : Pln} (h : checkP p = 0) (h1 : 60 < l.calls.length ∨ 200 < l.swps.length) : checkL p l = 2 := by unfold checkL; rw [if_neg (by rw [h]; simp), if_pos h1]
theorem checkL_3 {p : Prt} {l : Pln} (h : checkP p = 0) (h1 : ¬ (60 < l.calls.length ∨ 200 < l.swps.length)) (h2 : within l.hours 1 100 = false) : checkL p l = 6 := by unfold checkL; rw [if_neg (by rw [h]; simp), if_neg h1, if_pos h2]
theorem checkL_4 {p : Prt} {l : Pln} {e : Int} (h : checkP p = 0) (h1 : ¬ (60 < l.calls.length ∨ 200 < l.swps.length)) (h2 : within l.hours 1 100 = true) (h3 : callsE p l.hours 0 l.calls = e) (h0 : e ≠ 0) : checkL p l = e := by unfold checkL; rw [if_neg (by rw [h]; simp), if_neg h1, if_neg (by rw [h2]; simp), if_pos (by rw [h3]; exact h0), h3]
theorem checkL_5 {p : Prt} {l : Pln} {e : Int} (h : checkP p = 0) (h1 : ¬ (60 < l.calls.length ∨ 200 < l.swps.length)) (h2 : within l.hours 1 100 = true) (h3 : callsE p l.hours 0 l.calls = 0) (h4 : swpsE p l.hours l.swps = e) (h0 : e ≠ 0) : checkL p l = e := by unfold checkL; rw [if_neg (by rw [h]; simp), if_neg h1, if_neg (by rw [h2]; simp), if_neg (by rw [h3]; simp), if_pos (by rw [h4]; exact h0), h4]
theorem checkL_6 {p : Prt} {l : Pln} (h : checkP p = 0) (h1 : ¬ (60 < l.calls.length ∨ 200 < l.swps.length)) (h2 : within l.hours 1 100 = true) (h3 : callsE p l.hours 0 l.calls = 0) (h4 : swpsE p l.hours l.swps = 0) : checkL p l = finE p.tugs (l.swps.foldl addSwp (tlyCalls p l.hours.toNat l.calls).tugs) (tlyCalls p l.hours.toNat l.calls).twice 0 l.hours.toNat := by
  unfold checkL; rw [if_neg (by rw [h]; simp), if_neg h1, if_neg (by rw [h2]; simp), if_neg (by rw [h3]; simp), if_neg (by rw [h4]; simp)]
theorem drop_cons' {T : Type} {l : List T} {k : Nat} (hk : k < l.length) : l.drop k = l[k] :: l.drop (k + 1) := List.drop_eq_getElem_cons hk
structure BxC (w W : World) (pb lb D : Nat) (Ac : Option Addr) (cc : Nat) (Ab : Option Addr) (cb : Nat) (p : Prt) (Al : Option Addr) (cl : Nat) (As : Option Addr) (cs : Nat) (l : Pln) : Prop where
  hp : W.heap[pb]? = some (.cells (prtV Ac cc Ab cb p) 25 (0, 0))
  hl : W.heap[lb]? = some (.cells (plnV Al cl As cs l) 35 (0, 0))
  PB : PrtB D W Ac cc Ab cb p
  LB : PlnB D W Al cl As cs l
  hD : D ≤ W.heap.size
  bel : Below w.heap.size w W
section
variable {w W X : World} {pb lb D : Nat} {Ac : Option Addr} {cc : Nat} {Ab : Option Addr} {cb : Nat} {p : Prt} {Al : Option Addr} {cl : Nat} {As : Option Addr} {cs : Nat} {l : Pln}
theorem BxC.below (h : BxC w W pb lb D Ac cc Ab cb p Al cl As cs l) (hb : Below W.heap.size W X) : BxC w X pb lb D Ac cc Ab cb p Al cl As cs l :=
  ⟨(hb.block _ (hL_ h.hp)).trans h.hp, (hb.block _ (hL_ h.hl)).trans h.hl, h.PB.below (hb.mono h.hD), h.LB.below (hb.mono h.hD), by have := hb.size; have := h.hD; omega, h.bel.trans (hb.mono h.bel.size)⟩
theorem BxC.cells (h : BxC w W pb lb D Ac cc Ab cb p Al cl As cs l) : W.cell? ⟨pb, 0, none⟩ = some (.slice Ac p.chs.length cc) ∧ W.cell? ⟨pb, 1, none⟩ = some (.slice Ab p.bts.length cb) ∧ W.cell? ⟨pb, 2, none⟩ = some (.int .i64 p.tugs) ∧ pb < W.heap.size ∧
    W.cell? ⟨lb, 0, none⟩ = some (.int .i64 l.hours) ∧ W.cell? ⟨lb, 1, none⟩ = some (.slice Al l.calls.length cl) ∧ W.cell? ⟨lb, 2, none⟩ = some (.slice As l.swps.length cs) ∧ lb < W.heap.size :=
  ⟨(cOH h.hp 0).trans rfl, (cOH h.hp 1).trans rfl, (cOH h.hp 2).trans rfl, hL_ h.hp, (cOH h.hl 0).trans rfl, (cOH h.hl 1).trans rfl, (cOH h.hl 2).trans rfl, hL_ h.hl⟩
theorem BxC.new (PB : PrtB D w Ac cc Ab cb p) (LB : PlnB D w Al cl As cs l) (hD : D ≤ w.heap.size) : BxC w ((w.alloc (.cells (prtV Ac cc Ab cb p) 25)).alloc (.cells (plnV Al cl As cs l) 35)) w.heap.size (w.heap.size + 1) D Ac cc Ab cb p Al cl As cs l := by
  have b : Below w.heap.size w ((w.alloc (.cells (prtV Ac cc Ab cb p) 25)).alloc (.cells (plnV Al cl As cs l) 35)) := ((Below.refl _ _).alloc (Nat.le_refl _) _).alloc (by simp) _;refine ⟨hA_ (heap_alloc_new _ _) _, ?_, PB.below (b.mono hD), LB.below (b.mono hD), by have := b.size; omega, b⟩;have := heap_alloc_new (w.alloc (.cells (prtV Ac cc Ab cb p) 25)) (.cells (plnV Al cl As cs l) 35)
  rwa [World.size_alloc] at this
end
theorem CheckPlan_any (D : Nat) (Ac : Option Addr) (cc : Nat) (Ab : Option Addr) (cb : Nat) (p : Prt) (Al : Option Addr) (cl : Nat) (As : Option Addr) (cs : Nat) (l : Pln) (w : World) (PB : PrtB D w Ac cc Ab cb p) (LB : PlnB D w Al cl As cs l) (hD : D ≤ w.heap.size) :
    Calls Tryz.prog 56 #[.agg (prtV Ac cc Ab cb p), .agg (plnV Al cl As cs l)] w fun e w' => e = .returned (.int .i64 (checkL p l)) ∧ Below w.heap.size w w' := by
  have B0 := BxC.new PB LB hD;obtain ⟨W, hW⟩ : ∃ W, W = (w.alloc (.cells (prtV Ac cc Ab cb p) 25)).alloc (.cells (plnV Al cl As cs l) 35) := ⟨_, rfl⟩;obtain ⟨pb, hpb⟩ : ∃ pb, pb = w.heap.size := ⟨_, rfl⟩;obtain ⟨lb, hlb⟩ : ∃ lb, lb = w.heap.size + 1 := ⟨_, rfl⟩;rw [← hW, ← hlb, ← hpb] at B0;obtain ⟨er, her⟩ : ∃ er, er = checkP p := ⟨_, rfl⟩;have hck : ∀ X, BxC w X pb lb D Ac cc Ab cb p Al cl As cs l → Calls Tryz.prog 67 #[.agg (prtV Ac cc Ab cb p)] X fun e w' => e = .returned (.int .i64 er) ∧ Below X.heap.size X w' := fun X h => by rw [her]; exact ptCheck_any D Ac cc Ab cb p X h.PB h.hD
  have hcl1 := LB.c1;have hcl2 := LB.c2;have HB := Lib.hid B0;have HC := Lib.hid (And.intro her hck);clear PB LB her hck;obtain ⟨c0, c1, c2, zp, c3, c4, c5, zl⟩ := B0.cells;clear B0
  go_enter Tryz.func56, Tryz.ntmps56
  go_upto_region 1 with fail
  rw [← hW, ← hlb, ← hpb];have hpl : pb ≠ lb := by omega
  clear hW hlb hpb;by_cases h0 : er = 0
  · have h00 : checkP p = 0 := HC.out.1.symm.trans h0;subst h0;have hh0 : Hid (checkP p = 0) := Lib.hid h00;clear h00;have hpl2 : pb < W.heap.size ∧ lb < W.heap.size := ⟨zp, zl⟩;go_upto_region 4 with (go_at_call 67; refine (HC.out.2 W HB.out).mono ?_; rintro e w1 ⟨rfl, b1⟩; have H1 := Lib.hid (HB.out.below b1); clear c0 c1 c2 c3 c4 c5 zp zl b1)
    clear hpl2;have H1c := H1.out.cells;obtain ⟨c0, c1, c2, zp, c3, c4, c5, zl⟩ := H1c;by_cases hmany : 60 < l.calls.length ∨ 200 < l.swps.length
    · have hc := checkL_2 hh0.out hmany;have HCL := Lib.hid hc;clear hc;by_cases h60 : 60 < l.calls.length
      · have q1 : decide ((60 : Int) < (l.calls.length : Int)) = true := by simp; omega
        have q2 : decide (60 < l.calls.length) = true := by simp; omega
        go_wp2_with fail
        go_ret;exact ⟨by rw [HCL.out]; rfl, H1.out.bel⟩
      · have q1 : decide ((60 : Int) < (l.calls.length : Int)) = false := by simp; omega
        have q2 : decide (60 < l.calls.length) = false := by simp; omega
        have q3 : decide ((200 : Int) < (l.swps.length : Int)) = true := by simp; omega
        have q4 : decide (200 < l.swps.length) = true := by simp; omega
        go_wp2_with fail
        go_ret;exact ⟨by rw [HCL.out]; rfl, H1.out.bel⟩
    · have q1 : decide ((60 : Int) < (l.calls.length : Int)) = false := by simp; omega
      have q2 : decide (60 < l.calls.length) = false := by simp; omega
      have q3 : decide ((200 : Int) < (l.swps.length : Int)) = false := by simp; omega
      have q4 : decide (200 < l.swps.length) = false := by simp; omega
      have hlen : l.calls.length ≤ 60 ∧ l.swps.length ≤ 200 := by omega
      have HM := Lib.hid hmany;clear hmany;cases hw : within l.hours 1 100
      · have hc := checkL_3 hh0.out HM.out hw;have HCL := Lib.hid hc;clear hc;go_wp2_with (go_at_call 45; refine (pWa _ _ _ _).mono ?_; rintro e w' ⟨rfl, rfl⟩)
        go_ret;exact ⟨by rw [HCL.out]; rfl, H1.out.bel⟩
      · have hhr : 1 ≤ l.hours ∧ l.hours ≤ 100 := Pt.within_iff.1 hw;obtain ⟨H, hH⟩ := Int.eq_ofNat_of_zero_le (show 0 ≤ l.hours by omega);have HW := Lib.hid (And.intro hw hH);clear hH;obtain ⟨L, hL⟩ : ∃ L, L = l.calls.length := ⟨_, rfl⟩;rw [← hL] at c4 q1 q2;have hL60 : L ≤ 60 := by omega
        have HLL := Lib.hid hL;clear hL;go_wp2_with (go_at_call 45; refine (pWa _ _ _ _).mono ?_; rintro e w' ⟨rfl, rfl⟩)
        go_loopg [6, 47] (L) (fun g f i wr => ∃ (k : Nat) (fv : Int), g + k = L ∧ i = .int .i64 k ∧ f = .int .i64 fv ∧ callsE p l.hours 0 l.calls = callsE p l.hours fv (l.calls.drop k) ∧ Below w1.heap.size w1 wr)
        case atStart => exact ⟨0, 0, rfl, rfl, rfl, rfl, Below.refl _ _⟩
        case round =>
          obtain ⟨k, fv, hk, rfl, rfl, hE, hB⟩ := hrel;by_cases hlt : k < L
          · have hkl : k < l.calls.length := by rw [← HLL.out]; exact hlt
            obtain ⟨b, off, hAl, hbD, hcell⟩ := H1.out.LB.calls.2 (by omega);have hcap := H1.out.LB.c1;obtain ⟨g0, g1, g2, g3, g4, g5⟩ := cacs_get hkl;obtain ⟨x, hx⟩ : ∃ x, x = l.calls[k] := ⟨_, rfl⟩;rw [← hx] at g0 g1 g2 g3 g4 g5;have hbW : b < w1.heap.size := by have := H1.out.hD; omega
            have cw : ∀ {o : Nat} {u : Value}, w1.cell? ⟨b, o, none⟩ = some u → wr.cell? ⟨b, o, none⟩ = some u := fun h => (hB.cell (p := ⟨b, _, none⟩) hbW).trans h;have d0 := cw (hcell _ _ g0);have d1 : wr.cell? ⟨b, off + k * 6 + 1, none⟩ = _ := cw (hcell _ _ g1);have d2 : wr.cell? ⟨b, off + k * 6 + 2, none⟩ = _ := cw (hcell _ _ g2);have d3 : wr.cell? ⟨b, off + k * 6 + 3, none⟩ = _ := cw (hcell _ _ g3);have d4 : wr.cell? ⟨b, off + k * 6 + 4, none⟩ = _ := cw (hcell _ _ g4);have d5 : wr.cell? ⟨b, off + k * 6 + 5, none⟩ = _ := cw (hcell _ _ g5);have hbl := World.block_lt_of_cell? _ _ d0;obtain ⟨W2, hW2⟩ : ∃ W2, W2 = wr.alloc (.cells (caV x) 124) := ⟨_, rfl⟩;obtain ⟨xb, hxb⟩ : ∃ xb, xb = wr.heap.size := ⟨_, rfl⟩;have hxh : W2.heap[xb]? = some (.cells (caV x) 124 (0, 0)) := by rw [hW2, hxb]; exact heap_alloc_new _ _
            have b2 : Below w1.heap.size w1 W2 := by rw [hW2]; exact hB.alloc hB.size _
            have H2b := H1.out.below b2;have hS : callsE p l.hours fv (l.calls.drop k) = if callE p l.hours x fv ≠ 0 then callE p l.hours x fv else callsE p l.hours x.hour (l.calls.drop (k + 1)) := by rw [drop_cons' hkl, ← hx, callsE]
            obtain ⟨ce, hce⟩ : ∃ ce, ce = callE p l.hours x fv := ⟨_, rfl⟩;have kcall := ptCall_any pb Ac cc Ab cb p Al cl As cs l x fv D W2 H2b.hp H2b.PB.bts H2b.hD (by have := (checkP_ok hh0.out).nb; omega) (by omega);rw [← hce] at kcall hS;have HS := Lib.hid (And.intro (hE.trans hS) (And.intro kcall (And.intro H2b (And.intro hxh b2))));have zx := hL_ hxh;clear hE hB hS kcall H2b hxh b2 cw g0 g1 g2 g3 g4 g5 hcell hbW hx hce c0 c1 c2 zp c3 c5 zl hcap hkl;subst hAl;obtain ⟨a0, a1, a2, zp2, a3, a4, a5, zl2⟩ := HS.out.2.2.1.cells;obtain ⟨ho, be, ou, dr, mo, tg⟩ := x;have x0 := (cOH HS.out.2.2.2.1 0).trans rfl;have x1 := (cOH HS.out.2.2.2.1 1).trans rfl;have x2 := (cOH HS.out.2.2.2.1 2).trans rfl;have x3 := (cOH HS.out.2.2.2.1 3).trans rfl;have x4 := (cOH HS.out.2.2.2.1 4).trans rfl;have x5 := (cOH HS.out.2.2.2.1 5).trans rfl;go_upto_region 12 with fail
            rw [← hW2, ← hxb];clear hW2 hxb d0 d1 d2 d3 d4 d5 hbl;by_cases hce : ce = 0
            · subst hce;go_wp2_with (go_at_call 80; refine HS.out.2.1.mono ?_; rintro e w3 ⟨rfl, b3⟩; have y0 := (b3.cell (p := ⟨xb, 0, none⟩) zx).trans x0; have zx3 := Nat.lt_of_lt_of_le zx b3.size; have B3 := Lib.hid (HS.out.2.2.2.2.trans (b3.mono HS.out.2.2.2.2.size)); clear b3 x0 x1 x2 x3 x4 x5 a0 a1 a2 zp2 a3 a4 a5 zl2)
              go_roundg (gk - 1);case measure => omega
              case rel => exact ⟨k + 1, ho, by omega, by go_num, rfl, HS.out.1, B3.out⟩
            · have hcn : (ce != 0) = true := by simp [hce]
              have hfin : checkL p l = ce := checkL_4 hh0.out HM.out HW.out.1 (HS.out.1.trans (if_pos hce)) hce;have HF := Lib.hid hfin;clear hfin hce;go_wp2_with (go_at_call 80; refine HS.out.2.1.mono ?_; rintro e w3 ⟨rfl, b3⟩; have B3 := Lib.hid (HS.out.2.2.2.2.trans (b3.mono HS.out.2.2.2.2.size)); clear b3)
              go_ret;exact ⟨by rw [HF.out]; rfl, H1.out.bel.trans (B3.out.mono H1.out.bel.size)⟩
          · obtain rfl : k = L := by omega
            have hE0 : callsE p l.hours 0 l.calls = 0 := by rw [hE, HLL.out, List.drop_length]; rfl
            have H3 := Lib.hid (And.intro hE0 (H1.out.below hB));obtain ⟨w3, rfl⟩ : ∃ w3, w3 = wr := ⟨_, rfl⟩;obtain ⟨M, hM⟩ : ∃ M, M = l.swps.length := ⟨_, rfl⟩;have hM200 : M ≤ 200 := by omega
            obtain ⟨g1, rfl⟩ : ∃ g1, g1 = gk := ⟨_, rfl⟩;clear hE hB hE0 c0 c1 c2 zp c3 c4 c5 zl;obtain ⟨c0, c1, c2, zp, c3, c4, c5, zl⟩ := H3.out.2.cells;rw [← hM] at c5;have HMM := Lib.hid hM;have hnc := (checkP_ok hh0.out).nc;clear hM;go_wp2_with fail
            go_loopg [64] (M) (fun g i wr => ∃ k : Nat, g + k = M ∧ i = .int .i64 k ∧ swpsE p l.hours l.swps = swpsE p l.hours (l.swps.drop k) ∧ Below w3.heap.size w3 wr)
            case atStart => exact ⟨0, rfl, rfl, rfl, Below.refl _ _⟩
            case round =>
              obtain ⟨k, hk, rfl, hE, hB⟩ := hrel;by_cases hlt : k < M
              · have hkl : k < l.swps.length := by rw [← HMM.out]; exact hlt
                obtain ⟨b, off, hAl, hbD, hcell⟩ := H3.out.2.LB.swps.2 (by omega);obtain ⟨g0, g1, g2⟩ := swcs_get hkl;obtain ⟨x, hx⟩ : ∃ x, x = l.swps[k] := ⟨_, rfl⟩;rw [← hx] at g0 g1 g2;have hbW : b < w3.heap.size := by have := H3.out.2.hD; omega
                have cw : ∀ {o : Nat} {u : Value}, w3.cell? ⟨b, o, none⟩ = some u → wr.cell? ⟨b, o, none⟩ = some u := fun h => (hB.cell (p := ⟨b, _, none⟩) hbW).trans h;have d0 := cw (hcell _ _ g0);have d1 : wr.cell? ⟨b, off + k * 3 + 1, none⟩ = _ := cw (hcell _ _ g1);have d2 : wr.cell? ⟨b, off + k * 3 + 2, none⟩ = _ := cw (hcell _ _ g2);have hbl := World.block_lt_of_cell? _ _ d0;obtain ⟨e0, e1, e2, zp2, e3, e4, e5, zl2⟩ := (H3.out.2.below hB).cells;have hS : swpsE p l.hours (l.swps.drop k) = if swpE p l.hours x ≠ 0 then swpE p l.hours x else swpsE p l.hours (l.swps.drop (k + 1)) := by rw [drop_cons' hkl, ← hx, swpsE]
                have HS := Lib.hid (And.intro (hE.trans hS) hB);clear hE hB hS cw g0 g1 g2 hcell hbW hx c0 c1 c2 zp c3 c4 c5 zl hkl;subst hAl;obtain ⟨ho, cn, tg⟩ := x;cases k1 : within cn 0 ((p.chs.length : Int) - 1)
                · have he : swpE p l.hours ⟨ho, cn, tg⟩ = 1 := by unfold swpE; rw [k1]; rfl
                  have hfin : checkL p l = 1 := checkL_5 hh0.out HM.out HW.out.1 H3.out.1 (HS.out.1.trans (by rw [he]; rfl)) (by decide);have HF := Lib.hid hfin;clear hfin he;go_wp2_with (go_at_call 45; refine (pWa _ _ _ _).mono ?_; rintro e w' ⟨rfl, rfl⟩)
                  go_ret;have bb : Below w.heap.size w wr := H3.out.2.bel.trans (HS.out.2.mono H3.out.2.bel.size);exact ⟨by rw [HF.out]; rfl, bb.alloc bb.size _⟩
                cases k2 : within tg 1 20
                · have he : swpE p l.hours ⟨ho, cn, tg⟩ = 1 := by unfold swpE; rw [k1, k2]; rfl
                  have hfin : checkL p l = 1 := checkL_5 hh0.out HM.out HW.out.1 H3.out.1 (HS.out.1.trans (by rw [he]; rfl)) (by decide);have HF := Lib.hid hfin;clear hfin he;go_wp2_with (go_at_call 45; refine (pWa _ _ _ _).mono ?_; rintro e w' ⟨rfl, rfl⟩)
                  go_ret;have bb : Below w.heap.size w wr := H3.out.2.bel.trans (HS.out.2.mono H3.out.2.bel.size);exact ⟨by rw [HF.out]; rfl, bb.alloc bb.size _⟩
                cases k3 : within ho 0 (l.hours - 1)
                · have he : swpE p l.hours ⟨ho, cn, tg⟩ = 12 := by unfold swpE; rw [k1, k2, k3]; rfl
                  have hfin : checkL p l = 12 := checkL_5 hh0.out HM.out HW.out.1 H3.out.1 (HS.out.1.trans (by rw [he]; rfl)) (by decide);have HF := Lib.hid hfin;clear hfin he;go_wp2_with (go_at_call 45; refine (pWa _ _ _ _).mono ?_; rintro e w' ⟨rfl, rfl⟩)
                  go_ret;have bb : Below w.heap.size w wr := H3.out.2.bel.trans (HS.out.2.mono H3.out.2.bel.size);exact ⟨by rw [HF.out]; rfl, bb.alloc bb.size _⟩
                · have he : swpE p l.hours ⟨ho, cn, tg⟩ = 0 := by unfold swpE; rw [k1, k2, k3]; rfl
                  have hnx := HS.out.1;rw [he] at hnx;have HF := Lib.hid hnx;clear hnx he;go_wp2_with (go_at_call 45; refine (pWa _ _ _ _).mono ?_; rintro e w' ⟨rfl, rfl⟩)
                  go_roundg (gk - 1);case measure => omega
                  case rel => exact ⟨k + 1, by omega, by go_num, HF.out, HS.out.2.alloc HS.out.2.size _⟩
              · obtain rfl : k = M := by omega
                have hE0 : swpsE p l.hours l.swps = 0 := by rw [hE, HMM.out, List.drop_length]; rfl
                have hH2 := H3.out.2.below hB;have hfin := checkL_6 hh0.out HM.out HW.out.1 H3.out.1 hE0;rw [HW.out.2, Int.toNat_natCast] at hfin;have H4 := Lib.hid (And.intro hE0 (And.intro hH2 hfin));clear hE hB hE0 hH2 hfin c0 c1 c2 zp c3 c4 c5 zl;refine plX2 ?_;simp only [Exit.inBlock, Exit.then, if_true]
                apply_assumption
                refine plTail (w := w) H4.out.2.1.bel H4.out.2.1.hp H4.out.2.1.hl H4.out.2.1.PB H4.out.2.1.LB H4.out.2.1.hD (checkP_ok hh0.out) HW.out.2 (by have := HW.out.2; omega) hlen (callsE_ok H3.out.1).1 (swpsE_ok H4.out.1) ?_;intro _ _ _ h;show bodyPost Tryz.prog Tryz.f56 (fun e w' => e = .returned (.int .i64 (checkL p l)) ∧ Below w.heap.size w w') _ _ _;rw [H4.out.2.2]; exact h
  · have hne : (er != 0) = true := by simp [h0]
    have hc := checkL_1 (l := l) HC.out.1.symm h0;have HCL := Lib.hid hc;clear hc h0;go_wp2_with (go_at_call 67; refine (HC.out.2 W HB.out).mono ?_; rintro e w1 ⟨rfl, b1⟩)
    go_ret;exact ⟨by rw [HCL.out]; rfl, HB.out.bel.trans (b1.mono HB.out.bel.size)⟩
end Go.Proofs.YtalcinepeofmcaaGreat
