import Derived.Test.YtalcinepeofmcaaPSp2
import Derived.Test.YtalcinepeofmcaaPSp0
import Derived.WalkKit
set_option linter.unusedVariables false
set_option linter.unusedSimpArgs false
set_option maxRecDepth 100000
set_option maxHeartbeats 40000000
namespace Go.Proofs.Ytalcinepeofmcaa
open Go Go.RowKit Go.WideMaps Sp Pt
section
variable {W w : World} {mb tb wb H : Nat} {t : Tly}
theorem PlSt.alloc (h : PlSt W w mb tb wb H t) (o : Obj) : PlSt W (w.alloc o) mb tb wb H t :=
  ⟨h.kp.alloc o, hA_ h.tg o, h.tl, hA_ h.wg o, h.wl, h.mp.of_heap (Below.heap_alloc _ _ _ h.mp.lt)⟩
theorem PlSt.tug (h : PlSt W w mb tb wb H t) {k : Nat} (x : Int) (hk : k < H) (hn : mb ≠ tb ∧ tb ≠ wb) : PlSt W (w.setCell ⟨tb, k, none⟩ (.int .i64 x)).drew mb tb wb H ⟨setI t.tugs k x, t.twice, t.hits⟩ := by
  refine ⟨(h.kp.setCell (.inl (by simp)) _).drew, ?_, ?_, ?_, h.wl, ?_⟩
  · have := hS_ h.tg k (.int .i64 x);show (w.setCell ⟨tb, k, none⟩ (.int .i64 x)).heap[tb]? = _;rw [this]
    congr 2
    apply Array.ext';simp [ints, setI, List.map_set]
  · simp [setI, h.tl]
  · exact (Below.heap_setCell _ _ _ wb (by simp; omega)).trans h.wg
  · exact h.mp.of_heap (Below.heap_setCell _ _ _ mb (by simp; omega))
theorem PlSt.start (h : PlSt W w mb tb wb H t) : PlSt w w mb tb wb H t := ⟨Keep.refl _ _, h.tg, h.tl, h.wg, h.wl, h.mp⟩
theorem PlSt.after {w' : World} {t' : Tly} (h : PlSt W w mb tb wb H t) (h' : PlSt w w' mb tb wb H t') : PlSt W w' mb tb wb H t' := ⟨h.kp.trans h'.kp (by simp), h'.tg, h'.tl, h'.wg, h'.wl, h'.mp⟩
end
theorem hits_hit1 (h : Int) (t : Tly) (l : List Int) : (l.foldl (hit1 h) t).hits.length = t.hits.length + l.length := by
  induction l generalizing t with
  | nil => rfl
  | cons n l ih => rw [List.foldl_cons, ih, List.length_cons]; simp [hit1]; omega
def PgV (W0 : World) (tb xb k H : Nat) (x tg : Int) : Nat → Value → Prop
  | 0, v => v = .slice (some ⟨tb, 0, none⟩) H H
  | 1, v => v = .pointer (some ⟨xb, 0, none⟩)
  | 2, v => v = .int .i64 k
  | 3, v => v = .pointer (some ⟨tb, k, none⟩)
  | 4, v => v = .int .i64 x
  | 5, v => v = .pointer (some ⟨xb, 5, none⟩)
  | 6, v => v = .int .i64 tg
  | 7, v => v = .int .i64 (x + tg)
  | 8, v => v = .pointer (some ⟨tb, k, none⟩)
  | _, _ => True
def PgW (W0 : World) (tb xb k H : Nat) (x tg : Int) (l : Nat → Bool) (w : World) : Prop := if l 9 then w = (W0.setCell ⟨tb, k, none⟩ (.int .i64 (x + tg))).drew else w = W0.drew
theorem plOut {W0 wr : World} {mb tb wb pb H L cl i D : Nat} {Al Ac Ab : Option Addr} {cc cb : Nat} {pr : Prt} {t : Tly} {cs : List Cal} (S : PlSt W0 wr mb tb wb H t) (hp : W0.heap[pb]? = some (.cells (prtV Ac cc Ab cb pr) 44 (0, 0))) (hpn : pb ∉ [mb, tb, wb]) (hb : BtsB D W0 Ab pr.bts) (hD : D ≤ mb ∧ D ≤ tb ∧ D ≤ wb ∧ D ≤ W0.heap.size) (hcs : RdB D W0 6 Al L (cacs cs)) (hL : cs.length = L) (hi : i < L) (hL2 : L ≤ 1000)
    (hc : 0 ≤ (cs.getD i default).berth ∧ (cs.getD i default).berth < pr.bts.length ∧ 0 ≤ (cs.getD i default).hour ∧ (cs.getD i default).hour < H ∧ -1000 ≤ (cs.getD i default).tugs ∧ (cs.getD i default).tugs ≤ 1000) (hpt : ∀ b ∈ pr.bts, b.path.length ≤ 1000 ∧ ∀ y ∈ b.path, -1000 ≤ y ∧ y ≤ 1000) (hbl : pr.bts.length ≤ 1000) (hH : H ≤ 1000) (hN : t.hits.length ≤ 90000) (htg : ∀ k, -1000000 ≤ getI t.tugs k ∧ getI t.tugs k ≤ 1000000) (hne : mb ≠ tb ∧ mb ≠ wb ∧ tb ≠ wb) {s0 s1 s3 s4 s5 s6 s7 s8 s9 s10 s11 s15 s16 s17 s18 s19 s20 s21 s22 s23 s24 s25 s26 s27 s28 s29 s30 s31 s32 s33 s34 s35 s36 s37 s38 s39 s40 s41 s42 s43 s44 s45 s46 s47 s48 s49 s50 s51 s52 s53 s54 s55 s56 s57 s58 s59 s60 s61 s62 s63 s64 s65 s66 s67 s68 s69 s70 s71 s72 s73 s74 s75 s76 s77 s78 s79 s80 s81 s82 s83 s84 s85 s86 s87 s88 s89 s90 s91 s92 s93 s94 s95 s96 s97 s98 s99 s103 s104 s105 s106 s107 s108 s109 s110 s111 s112 s113 s114 s115 s116 s117 s118 s119 s120 s121 s122 s123 s124 s125 s126 s127 s128 s129 s130 s131 s132 s133 s134 s135 s136 s137 s138 s139 s140 s141 s142 s143 s144 s145 s146 s147 s148 s149 s150 s151 s152 s153 s154 s155 s156 s157 s158 s159 s160 s161 s162 s163 s164 s165 s166 s167 s168 s169 s170 s171 s172 s173 s174 s175 s176 s177 s178 s179 s180 s181 s182 s183 s184 s185 s186 s187 s188 s189 s190 : Value} {Q0 : Exit → Act → World → Prop} {Inv : Act → World → Prop}
    (hInv : ∀ (t16 t18 t103 t104 t105 t106 t107 t108 t109 t110 t111 t112 t113 t114 t115 t116 t117 t118 t119 t120 t121 t122 t123 t124 t125 t126 t127 t128 t129 t130 t131 t132 t133 t134 t135 t136 t137 t138 t139 t140 t141 t142 t143 t144 t145 t146 t147 t148 t149 t150 t151 t152 t153 t154 t155 : Value)  (w' : World), PlSt W0 w' mb tb wb H (tlyCall pr t (cs.getD i default)) → Inv ⟨#[s0, s1, .pointer (some ⟨pb, 0, none⟩), s3, s4, s5, s6, s7, s8, s9, s10, s11, .map (some mb), .slice (some ⟨tb, 0, none⟩) H H, .slice (some ⟨wb, 0, none⟩) H H, s15, t16, s17, t18, s19, s20, s21, s22, s23, s24, s25, s26, s27, s28, s29, s30, s31, s32, s33, s34, s35, s36, s37, s38, s39, s40, s41, s42, s43, s44, s45, s46, s47, s48, s49, s50, s51, s52, s53, s54, s55, s56, s57, s58, s59, s60, s61, s62, s63, s64, s65, s66, s67, s68, s69, s70, s71, s72, s73, s74, s75, s76, s77, s78, s79, s80, s81, s82, s83, s84, s85, s86, s87, s88, s89, s90, s91, s92, s93, s94, s95, s96, s97, s98, s99, .slice Al L cl, .int .i64 L, .int .i64 ((i + 1 : Nat) : Int), t103, t104, t105, t106, t107, t108, t109, t110, t111, t112, t113, t114, t115, t116, t117, t118, t119, t120, t121, t122, t123, t124, t125, t126, t127, t128, t129, t130, t131, t132, t133, t134, t135, t136, t137, t138, t139, t140, t141, t142, t143, t144, t145, t146, t147, t148, t149, t150, t151, t152, t153, t154, t155, s156, s157, s158, s159, s160, s161, s162, s163, s164, s165, s166, s167, s168, s169, s170, s171, s172, s173, s174, s175, s176, s177, s178, s179, s180, s181, s182, s183, s184, s185, s186, s187, s188, s189, s190], []⟩ w') :
    Code.wp Try.prog (loopBody Try.f38 2) (Exit.then Inv Q0) ⟨#[s0, s1, .pointer (some ⟨pb, 0, none⟩), s3, s4, s5, s6, s7, s8, s9, s10, s11, .map (some mb), .slice (some ⟨tb, 0, none⟩) H H, .slice (some ⟨wb, 0, none⟩) H H, s15, s16, s17, s18, s19, s20, s21, s22, s23, s24, s25, s26, s27, s28, s29, s30, s31, s32, s33, s34, s35, s36, s37, s38, s39, s40, s41, s42, s43, s44, s45, s46, s47, s48, s49, s50, s51, s52, s53, s54, s55, s56, s57, s58, s59, s60, s61, s62, s63, s64, s65, s66, s67, s68, s69, s70, s71, s72, s73, s74, s75, s76, s77, s78, s79, s80, s81, s82, s83, s84, s85, s86, s87, s88, s89, s90, s91, s92, s93, s94, s95, s96, s97, s98, s99, .slice Al L cl, .int .i64 L, .int .i64 i, s103, s104, s105, s106, s107, s108, s109, s110, s111, s112, s113, s114, s115, s116, s117, s118, s119, s120, s121, s122, s123, s124, s125, s126, s127, s128, s129, s130, s131, s132, s133, s134, s135, s136, s137, s138, s139, s140, s141, s142, s143, s144, s145, s146, s147, s148, s149, s150, s151, s152, s153, s154, s155, s156, s157, s158, s159, s160, s161, s162, s163, s164, s165, s166, s167, s168, s169, s170, s171, s172, s173, s174, s175, s176, s177, s178, s179, s180, s181, s182, s183, s184, s185, s186, s187, s188, s189, s190], []⟩ wr := by
  conv => arg 2; whnf
  obtain ⟨bt0, bt1, hr0, hr1, tg0, tg1⟩ := hc;have hg : cs[i]'(by omega) = cs.getD i default := by simp [List.getD_eq_getElem?_getD, List.getElem?_eq_getElem (show i < cs.length by omega)]
  generalize cs.getD i default = x0 at *;obtain ⟨bc, oc, rfl, hbc, hcc⟩ := hcs.2 (by omega);obtain ⟨g0, g1, g2, g3, g4, g5⟩ := cacs_get (l := cs) (k := i) (by omega);rw [hg] at g0 g1 g2 g3 g4 g5;have hnD : ∀ b, b < D → b ∉ [mb, tb, wb] := fun b h => by simp; omega
  have cw : ∀ {o : Nat} {u : Value}, W0.cell? ⟨bc, o, none⟩ = some u → wr.cell? ⟨bc, o, none⟩ = some u := fun h => S.kp.cell h (hnD _ hbc);obtain ⟨ho, be, ou, dr, mo, tg⟩ := x0;simp only at bt0 bt1 hr0 hr1 tg0 tg1 g0 g1 g2 g3 g4 g5;obtain ⟨k, rfl⟩ := Int.eq_ofNat_of_zero_le hr0;obtain ⟨m, rfl⟩ := Int.eq_ofNat_of_zero_le bt0;have hk : k < H := by omega
  have hm : m < pr.bts.length := by omega
  have c0 := cw (hcc _ _ g0);have c1 : wr.cell? ⟨bc, oc + i * 6 + 1, none⟩ = _ := cw (hcc _ _ g1);have c2 : wr.cell? ⟨bc, oc + i * 6 + 2, none⟩ = _ := cw (hcc _ _ g2);have c3 : wr.cell? ⟨bc, oc + i * 6 + 3, none⟩ = _ := cw (hcc _ _ g3);have c4 : wr.cell? ⟨bc, oc + i * 6 + 4, none⟩ = _ := cw (hcc _ _ g4);have c5 : wr.cell? ⟨bc, oc + i * 6 + 5, none⟩ = _ := cw (hcc _ _ g5);have zc := World.block_lt_of_cell? _ _ c0;obtain ⟨W2, hW2⟩ : ∃ W2, W2 = wr.alloc (.cells #[.int .i64 k, .int .i64 m, .bool ou, .int .i64 dr, .int .i64 mo, .int .i64 tg] 52) := ⟨_, rfl⟩;obtain ⟨xb, hxb⟩ : ∃ xb, xb = wr.heap.size := ⟨_, rfl⟩;have hxh : W2.heap[xb]? = some (.cells #[.int .i64 k, .int .i64 m, .bool ou, .int .i64 dr, .int .i64 mo, .int .i64 tg] 52 (0, 0)) := by rw [hW2, hxb]; exact heap_alloc_new _ _
  have S2 : PlSt W0 W2 mb tb wb H t := by rw [hW2]; exact S.alloc _
  have hxn : xb ∉ [mb, tb, wb] := by have := S.mp.lt; have := hL_ S.tg; have := hL_ S.wg; simp; omega
  obtain ⟨x, hx⟩ : ∃ x, x = getI t.tugs k := ⟨_, rfl⟩;have hxr := htg k;rw [← hx] at hxr;have e1 : W2.cell? ⟨tb, k, none⟩ = some (.int .i64 x) := by rw [cOH S2.tg, List.getElem?_toArray, iG_ (by rw [S2.tl]; exact hk), hx]; simp [getI]
  have HE := Lib.hid (And.intro ((cOH hxh 0).trans rfl) (And.intro ((cOH hxh 5).trans rfl) (And.intro e1 (And.intro (fOH S2.tg k) (And.intro (hL_ hxh) (hL_ S2.tg))))));have HI := Lib.hid hInv;have HS := Lib.hid (And.intro S2 (And.intro hxh (And.intro hxn hx)));have HP := Lib.hid (And.intro hp (And.intro hpn (And.intro hb (And.intro hD (And.intro hpt hnD)))));have HN := Lib.hid hne;have n1 : (i : Int) < (L : Int) := by omega
  clear hInv S S2 hxh hxn hx hp hpn hb hpt hnD hcs hcc cw g0 g1 g2 g3 g4 g5 e1 htg hne hg;go_upto_region 30 with fail
  rw [← hW2, ← hxb];clear hW2 hxb c0 c1 c2 c3 c4 c5 zc;have k1 : (0 : Int) ≤ (k : Int) := by omega
  have k2 : (k : Int) < (H : Int) := by omega
  refine wRS (σ := Unit) (by kernel_rfl) (by kernel_rfl) (fun _ jx vx _ => PgV W2 tb xb k H x tg jx vx) (fun _ ly wx => PgW W2 tb xb k H x tg ly wx) () ?_ ?_ ?_
  · exact (by unfold PgW; rw [if_neg (by simp)])
  · simp only [AllFrom, Nat.zero_add, Nat.reduceAdd];refine ⟨?_, ?_, ?_, ?_, ?_, ?_, ?_, ?_, ?_, ?_, trivial⟩
    · refine sP_ fun sg ly a wr hl hd hW hF => ?_;have et13 := hF.old 13 (by kernel_rfl);simp [Act.eval] at et13;exact ⟨by simpa [PgW, upd] using hW, .slice (some ⟨tb, 0, none⟩) H H, by go_simp, rfl⟩
    · refine sP_ fun sg ly a wr hl hd hW hF => ?_;have et16 := hF.old 16 (by kernel_rfl);simp [Act.eval] at et16;exact ⟨by simpa [PgW, upd] using hW, .pointer (some ⟨xb, 0, none⟩), by go_simp, rfl⟩
    · refine sP_ fun sg ly a wr hl hd hW hF => ?_;simp [Region.binds] at hd;have et107 := hF.new 1 107 (by simp [hd]) rfl;simp [PgV, Act.eval] at et107;have n9_8 := hF.notYet 2 8 hl (by kernel_rfl);have n9 := hF.notYet 8 9 n9_8 (by kernel_rfl);have hW' := hW;unfold PgW at hW';rw [if_neg (by simp [n9])] at hW';subst hW';obtain ⟨d0, d5, e1, q1, zx, zt⟩ := HE.out;exact ⟨by unfold PgW; rw [if_neg (by simp [upd, n9])], _, by go_simp, rfl⟩
    · refine sP_ fun sg ly a wr hl hd hW hF => ?_;simp [Region.binds] at hd;have et106 := hF.new 0 106 (by simp [hd]) rfl;simp [PgV, Act.eval] at et106;have et108 := hF.new 2 108 (by simp [hd]) rfl;simp [PgV, Act.eval] at et108;exact ⟨by simpa [PgW, upd] using hW, .pointer (some ⟨tb, k, none⟩), by go_simp, rfl⟩
    · refine sP_ fun sg ly a wr hl hd hW hF => ?_;simp [Region.binds] at hd;have et109 := hF.new 3 109 (by simp [hd]) rfl;simp [PgV, Act.eval] at et109;have n9_7 := hF.notYet 4 7 hl (by kernel_rfl);have n9 := hF.notYet 7 9 n9_7 (by kernel_rfl);have hW' := hW;unfold PgW at hW';rw [if_neg (by simp [n9])] at hW';subst hW';obtain ⟨d0, d5, e1, q1, zx, zt⟩ := HE.out;exact ⟨by unfold PgW; rw [if_neg (by simp [upd, n9])], _, by go_simp, rfl⟩
    · refine sP_ fun sg ly a wr hl hd hW hF => ?_;have et16 := hF.old 16 (by kernel_rfl);simp [Act.eval] at et16;exact ⟨by simpa [PgW, upd] using hW, .pointer (some ⟨xb, 5, none⟩), by go_simp, rfl⟩
    · refine sP_ fun sg ly a wr hl hd hW hF => ?_;simp [Region.binds] at hd;have et111 := hF.new 5 111 (by simp [hd]) rfl;simp [PgV, Act.eval] at et111;have n9_7 := hF.notYet 6 7 hl (by kernel_rfl);have n9 := hF.notYet 7 9 n9_7 (by kernel_rfl);have hW' := hW;unfold PgW at hW';rw [if_neg (by simp [n9])] at hW';subst hW';obtain ⟨d0, d5, e1, q1, zx, zt⟩ := HE.out;exact ⟨by unfold PgW; rw [if_neg (by simp [upd, n9])], _, by go_simp, rfl⟩
    · refine sP_ fun sg ly a wr hl hd hW hF => ?_;simp [Region.binds] at hd;have et110 := hF.new 4 110 (by simp [hd]) rfl;simp [PgV, Act.eval] at et110;have et112 := hF.new 6 112 (by simp [hd]) rfl;simp [PgV, Act.eval] at et112;have ew := IntWalk.i64_in (x + tg) (by omega);exact ⟨by simpa [PgW, upd] using hW, .int .i64 (x + tg), by go_simp, rfl⟩
    · refine sP_ fun sg ly a wr hl hd hW hF => ?_;simp [Region.binds] at hd;have et106 := hF.new 0 106 (by simp [hd]) rfl;simp [PgV, Act.eval] at et106;have et108 := hF.new 2 108 (by simp [hd]) rfl;simp [PgV, Act.eval] at et108;exact ⟨by simpa [PgW, upd] using hW, .pointer (some ⟨tb, k, none⟩), by go_simp, rfl⟩
    · refine sS_ rfl fun sg ly a wr hl hd hW hF => ?_;simp [Region.binds] at hd;have et114 := hF.new 8 114 (by simp [hd]) rfl;simp [PgV, Act.eval] at et114;have et113 := hF.new 7 113 (by simp [hd]) rfl;simp [PgV, Act.eval] at et113;have hW' := hW;unfold PgW at hW';rw [if_neg (by simp [hl])] at hW';subst hW';obtain ⟨d0, d5, e1, q1, zx, zt⟩ := HE.out;refine ⟨(W2.setCell ⟨tb, k, none⟩ (.int .i64 (x + tg))).drew, (), .skip, by go_simp, .inl rfl, by unfold PgW; rw [if_pos (by simp [upd])], fun _ _ _ h => h⟩
  intro _ a w3 hWW hF;obtain ⟨f3, hf3, rfl⟩ := hF.lit;have hw3 : w3 = (W2.setCell ⟨tb, k, none⟩ (.int .i64 (x + tg))).drew := by
    have h5 := hWW;unfold PgW at h5
    rwa [if_pos (by simp)] at h5
  have S3 : PlSt W0 w3 mb tb wb H ⟨setI t.tugs k (x + tg), t.twice, t.hits⟩ := by rw [hw3]; exact HS.out.1.tug _ hk ⟨HN.out.1, HN.out.2.2⟩
  have hx3 : w3.heap[xb]? = some (.cells #[.int .i64 k, .int .i64 m, .bool ou, .int .i64 dr, .int .i64 mo, .int .i64 tg] 52 (0, 0)) := by
    rw [hw3];exact (Below.heap_setCell _ _ _ xb (by have := HS.out.2.2.1; simp at this ⊢; omega)).trans HS.out.2.1
  clear hf3 hF hWW hw3 HE;simp only [List.filterMap, List.foldl, List.setIfInBounds_toArray, List.set_cons_succ, List.set_cons_zero];have hp3 := (S3.kp.block pb (hL_ HP.out.1) HP.out.2.1).trans HP.out.1;obtain ⟨bk, ob, Ak, ck, rfl, hbk, b1, b2, b3⟩ := HP.out.2.2.1 m hm;obtain ⟨pth, hpth⟩ : ∃ q, q = pr.bts[m].path := ⟨_, rfl⟩;rw [← hpth] at b2 b3;have p1 : w3.cell? ⟨pb, 1, none⟩ = some (.slice (some ⟨bk, ob, none⟩) pr.bts.length cb) := (cOH hp3 1).trans rfl;have x1 : w3.cell? ⟨xb, 1, none⟩ = some (.int .i64 m) := (cOH hx3 1).trans rfl;have x0 : w3.cell? ⟨xb, 0, none⟩ = some (.int .i64 k) := (cOH hx3 0).trans rfl;have q2 := S3.kp.cell b2 (HP.out.2.2.2.2.2 _ hbk);have zp := hL_ hp3;have zx := hL_ hx3;have zb := World.block_lt_of_cell? _ _ q2;have m1 : (0 : Int) ≤ (m : Int) := by omega
  have m2 : (m : Int) < (pr.bts.length : Int) := by omega
  have hpl := (HP.out.2.2.2.2.1 _ (List.getElem_mem hm)).1;have hpy := (HP.out.2.2.2.2.1 _ (List.getElem_mem hm)).2;rw [← hpth] at hpl hpy;have hbtm : bt pr (m : Int) = pr.bts[m] := by simp [bt, hm]
  have H3 := Lib.hid (And.intro S3 (And.intro hx3 (And.intro b3 (And.intro hpth (And.intro hpy hbtm)))));have X3 := Lib.hid x0;clear S3 hx3 hp3 b1 b2 b3 hpth hpy hbtm x0;go_wp2_with fail
  go_loopw [123] (fun q wq => ∃ j : Nat, j ≤ pth.length ∧ q = .int .i64 j ∧ PlSt w3 wq mb tb wb H ((pth.take j).foldl (hit1 k) ⟨setI t.tugs k (x + tg), t.twice, t.hits⟩)) (fun q _ => pth.length - (intOf q).toNat)
  case atStart => exact ⟨0, Nat.zero_le _, rfl, H3.out.1.start⟩
  case round =>
    obtain ⟨j, hj, rfl, hS⟩ := hrel;by_cases hlt : j < pth.length
    · obtain ⟨pk, pq, rfl, hpk, hpc⟩ := H3.out.2.2.1.1.2 (by omega);have hcell := H3.out.1.kp.cell (hpc j _ (iG_ hlt)) (HP.out.2.2.2.2.2 _ hpk);have hy := H3.out.2.2.2.2.1 (pth.getD j 0) (by rw [List.getD_eq_getElem?_getD, List.getElem?_eq_getElem hlt]; exact List.getElem_mem hlt);refine plIn (n := pth.getD j 0) (h := k) hS X3.out HS.out.2.2.1 hcell (HP.out.2.2.2.2.2 _ hpk) ⟨k1, k2⟩ hH (by rw [hits_hit1, List.length_take]; simp only; omega) hlt hpl hy HN.out ?_;intro _ _ _ _ _ _ _ _ _ _ _ _ _ _ _ _ _ _ _ _ _ _ _ _ _ _ _ _ _ _ _ _ w' hr;refine ⟨?_, by simp [intOf]; omega⟩
      repeat apply Exists.intro
      refine ⟨?_, rfl⟩;refine ⟨j + 1, by omega, by go_num, ?_⟩;have e0 : (pth.take (j + 1)) = pth.take j ++ [pth.getD j 0] := by rw [List.take_succ_eq_append_getElem hlt, List.getD_eq_getElem?_getD, List.getElem?_eq_getElem hlt]; rfl
      rw [e0, List.foldl_append];exact hr
    · obtain rfl : j = pth.length := by omega
      have hfin := H3.out.1.after hS;rw [List.take_length] at hfin;have HF := Lib.hid hfin;clear hfin hS;go_wp2_with fail
      refine HI.out _ _ _ _ _ _ _ _ _ _ _ _ _ _ _ _ _ _ _ _ _ _ _ _ _ _ _ _ _ _ _ _ _ _ _ _ _ _ _ _ _ _ _ _ _ _ _ _ _ _ _ _ _ _ _ _ ?_;rw [tlyCall, H3.out.2.2.2.2.2, ← H3.out.2.2.2.1, ← HS.out.2.2.2];exact HF.out
end Go.Proofs.Ytalcinepeofmcaa
namespace Go.Proofs.Ytalcinepeofmcaa.Pt
open Sp
def limOk (m : Mp) (b : Int) : Prop := m.most = NL ∨ b ≤ m.most
def ap (m : Mp) (b : Int) : Int := max (b + m.add) m.floor
structure Gm (m : Mp) : Prop where
  add : -4000 ≤ m.add ∧ m.add ≤ 100
  flo : 0 ≤ m.floor ∧ m.floor ≤ 100
  lo : 0 ≤ m.most
  hi : m.most = NL ∨ m.most ≤ 1000000
structure Jm (k : Nat) (m : Mp) : Prop where
  add : -(4000 * (k : Int)) ≤ m.add ∧ m.add ≤ 100 * k
  flo : 0 ≤ m.floor ∧ m.floor ≤ 100 * k
  lo : -1 ≤ m.most
  hi : m.most ≤ NL
  lt : m.most = NL ∨ m.most ≤ 1000000 + 4000 * k
theorem join_sem {k : Nat} {a m : Mp} (ha : Jm k a) (hm : Gm m) (hk : k ≤ 800) {b : Int} (hb : 0 ≤ b) :
    (limOk (join1 a m) b ↔ limOk a b ∧ limOk m (ap a b)) ∧ ap (join1 a m) b = ap m (ap a b) ∧ Jm (k + 1) (join1 a m) := by
  obtain ⟨⟨a1, a1'⟩, ⟨a2, a2'⟩, a3, a4, a5⟩ := ha;obtain ⟨⟨m1, m1'⟩, ⟨m2, m2'⟩, m3, m4⟩ := hm;have h := joinL_cases a m;refine ⟨?_, ?_, ?_⟩
  · simp only [limOk, ap, join1, NL] at *;omega
  · simp only [ap, join1];omega
  · refine ⟨?_, ?_, ?_, ?_, ?_⟩ <;> simp only [join1, NL] at * <;> omega
def seqOk : List Mp → Int → Prop
  | [], _ => True
  | m :: l, b => limOk m b ∧ seqOk l (ap m b)
def seqAp (l : List Mp) (b : Int) : Int := l.foldl (fun b m => ap m b) b
theorem ap_ge {m : Mp} (hm : Gm m) (b : Int) : 0 ≤ ap m b := by have := hm.flo.1; simp only [ap]; omega
theorem seqAp_append (l l' : List Mp) (b : Int) : seqAp (l ++ l') b = seqAp l' (seqAp l b) := by simp [seqAp]
theorem seqOk_append (l l' : List Mp) (b : Int) : seqOk (l ++ l') b ↔ seqOk l b ∧ seqOk l' (seqAp l b) := by
  induction l generalizing b with
  | nil => simp [seqOk, seqAp]
  | cons m l ih =>
    rw [List.cons_append, seqOk, seqOk, ih, and_assoc];rfl
theorem seqAp_ge {l : List Mp} (hl : ∀ m ∈ l, Gm m) {b : Int} (hb : 0 ≤ b) : 0 ≤ seqAp l b := by
  induction l generalizing b with
  | nil => exact hb
  | cons m l ih => exact ih (fun x hx => hl x (by simp [hx])) (ap_ge (hl m (by simp)) b)
theorem fold_sem {l : List Mp} (hl : ∀ m ∈ l, Gm m) : ∀ {k : Nat} {a : Mp}, Jm k a → k + l.length ≤ 800 → ∀ {b : Int}, 0 ≤ b →
    (limOk (l.foldl join1 a) b ↔ limOk a b ∧ seqOk l (ap a b)) ∧ ap (l.foldl join1 a) b = seqAp l (ap a b) := by
  induction l with
  | nil => intro k a _ _ b _; simp [seqOk, seqAp]
  | cons m l ih =>
    intro k a ha hk b hb;simp only [List.length_cons] at hk;obtain ⟨h1, h2, h3⟩ := join_sem ha (hl m (by simp)) (by omega) hb;obtain ⟨h4, h5⟩ := ih (fun x hx => hl x (by simp [hx])) h3 (by omega) hb;rw [List.foldl_cons, h4, h1, h5, h2];refine ⟨?_, rfl⟩;simp only [seqOk];constructor
    · rintro ⟨⟨x, y⟩, z⟩; exact ⟨x, y, z⟩
    · rintro ⟨x, y, z⟩; exact ⟨⟨x, y⟩, z⟩
theorem fold_jm {l : List Mp} (hl : ∀ m ∈ l, Gm m) : ∀ {k : Nat} {a : Mp}, Jm k a → k + l.length ≤ 800 → Jm (k + l.length) (l.foldl join1 a) := by
  induction l with
  | nil => intro k a ha _; exact ha
  | cons m l ih =>
    intro k a ha hk;simp only [List.length_cons] at hk;obtain ⟨_, _, h3⟩ := join_sem ha (hl m (by simp)) (by omega) (Int.le_refl 0);have := ih (fun x hx => hl x (by simp [hx])) h3 (by omega);rw [List.foldl_cons, List.length_cons, show k + (l.length + 1) = k + 1 + l.length from by omega];exact this
theorem id_jm : Jm 0 id1 := ⟨by decide, by decide, by decide, by decide, .inl rfl⟩
theorem fold_id {l : List Mp} (hl : ∀ m ∈ l, Gm m) (hk : l.length ≤ 800) {b : Int} (hb : 0 ≤ b) :
    (limOk (l.foldl join1 id1) b ↔ seqOk l b) ∧ ap (l.foldl join1 id1) b = seqAp l b := by
  obtain ⟨h1, h2⟩ := fold_sem hl id_jm (by omega) hb;have e : ap id1 b = b := by simp only [ap, id1]; omega
  rw [e] at h1 h2;exact ⟨by rw [h1]; simp [limOk, id1], h2⟩
structure Val (p : Prt) (l : Pln) : Prop where
  nc : 1 ≤ p.chs.length ∧ p.chs.length ≤ 6
  nb : 1 ≤ p.bts.length ∧ p.bts.length ≤ 4
  h : 1 ≤ l.hours ∧ l.hours ≤ 100
  nx : l.calls.length ≤ 60 ∧ l.swps.length ≤ 200
  chf : ∀ c ∈ p.chs, 0 ≤ c.grow ∧ c.grow ≤ 100 ∧ 0 ≤ c.frost ∧ c.frost ≤ 20 ∧ 1 ≤ c.clear ∧ c.clear ≤ 200
  btf : ∀ b ∈ p.bts, b.path ≠ [] ∧ b.path.Nodup ∧ ∀ x ∈ b.path, 0 ≤ x ∧ x < p.chs.length
  ca : ∀ c ∈ l.calls, 0 ≤ c.berth ∧ c.berth < p.bts.length ∧ 0 ≤ c.most ∧ c.most ≤ 1000000 ∧ 0 ≤ c.hour ∧ c.hour < l.hours
  sw : ∀ s ∈ l.swps, 0 ≤ s.channel ∧ s.channel < p.chs.length ∧ 1 ≤ s.tugs ∧ s.tugs ≤ 20 ∧ 0 ≤ s.hour ∧ s.hour < l.hours
theorem ch_mem {p : Prt} {i : Int} (h0 : 0 ≤ i) (h1 : i < p.chs.length) : ch p i ∈ p.chs := by
  unfold ch;have : i.toNat < p.chs.length := by omega
  rw [List.getD_eq_getElem?_getD, List.getElem?_eq_getElem this];exact List.getElem_mem _
theorem bt_mem {p : Prt} {i : Int} (h0 : 0 ≤ i) (h1 : i < p.bts.length) : bt p i ∈ p.bts := by
  unfold bt;have : i.toNat < p.bts.length := by omega
  rw [List.getD_eq_getElem?_getD, List.getElem?_eq_getElem this];exact List.getElem_mem _
theorem getI_set {l : List Int} {i c x : Int} (hi : 0 ≤ i) (hc : 0 ≤ c) (hl : i < l.length) : getI (setI l i x) c = if i = c then x else getI l c := by
  unfold getI setI;simp only [List.getD_eq_getElem?_getD, List.getElem?_set];by_cases e : i = c
  · subst e;rw [if_pos rfl, if_pos (by omega), if_pos rfl]; rfl
  · rw [if_neg (by omega), if_neg e]
def swMaps (p : Prt) (c h : Int) (l : List Swp) : List Mp := (l.filter fun s => decide (s.hour = h) && decide (s.channel = c)).map fun s => ⟨-s.tugs * (ch p c).clear, 0, NL⟩
def caMaps (p : Prt) (c h : Int) (l : List Cal) : List Mp := (l.filter fun x => decide (x.hour = h) && (bt p x.berth).path.contains c).map fun x => ⟨(ch p c).grow, (ch p c).grow, x.most⟩
theorem swpN_length (p : Prt) (h : Int) (l : List Swp) (b : List Int) : (swpN p h l b).length = b.length := by
  induction l generalizing b with
  | nil => rfl
  | cons s l ih =>
    have e : swpN p h (s :: l) b = swpN p h l (swp1 p h b s) := rfl;rw [e, ih]; unfold swp1; split
    · exact setI_length _ _ _
    · rfl
theorem swp_sem {p : Prt} {h c : Int} (hc : 0 ≤ c) {l : List Swp} : ∀ {b : List Int}, (∀ s ∈ l, 0 ≤ s.channel ∧ s.channel < b.length) → getI (swpN p h l b) c = seqAp (swMaps p c h l) (getI b c) := by
  induction l with
  | nil => intro b _; rfl
  | cons s l ih =>
    intro b hl;have e : swpN p h (s :: l) b = swpN p h l (swp1 p h b s) := rfl;have hlen : (swp1 p h b s).length = b.length := by unfold swp1; split; exact setI_length _ _ _; rfl
    obtain ⟨s1, s2⟩ := hl s (by simp);rw [e, ih (fun x hx => by rw [hlen]; exact hl x (by simp [hx]))];have e2 : getI (swp1 p h b s) c = if s.hour = h ∧ s.channel = c then max 0 (getI b c - s.tugs * (ch p c).clear) else getI b c := by
      unfold swp1;by_cases h1 : s.hour = h
      · rw [if_pos h1, getI_set s1 hc s2];by_cases h2 : s.channel = c
        · rw [if_pos h2, if_pos ⟨h1, h2⟩, h2]
        · rw [if_neg h2, if_neg (fun q => h2 q.2)]
      · rw [if_neg h1, if_neg (fun q => h1 q.1)]
    rw [e2];unfold swMaps;by_cases h1 : s.hour = h ∧ s.channel = c
    · rw [if_pos h1, List.filter_cons_of_pos (by simp [h1.1, h1.2])];simp only [List.map_cons, seqAp, List.foldl_cons]
      congr 1
      simp only [ap];have : -s.tugs * (ch p c).clear = -(s.tugs * (ch p c).clear) := Int.neg_mul _ _;rw [this];omega
    · rw [if_neg h1, List.filter_cons_of_neg (by simpa using h1)]
theorem growN_length (p : Prt) (l : List Int) (b : List Int) : (growN p l b).length = b.length := by
  induction l generalizing b with
  | nil => rfl
  | cons s l ih => exact (ih _).trans (setI_length _ _ _)
theorem grow_sem {p : Prt} {c : Int} (hc : 0 ≤ c) {l : List Int} : ∀ {b : List Int}, l.Nodup → (∀ s ∈ l, 0 ≤ s ∧ s < b.length) → getI (growN p l b) c = if c ∈ l then getI b c + (ch p c).grow else getI b c := by
  induction l with
  | nil => intro b _ _; simp [growN]
  | cons s l ih =>
    intro b hn hl;obtain ⟨h1, h2⟩ := List.nodup_cons.1 hn;obtain ⟨s1, s2⟩ := hl s (by simp);have e : growN p (s :: l) b = growN p l (grow1 p b s) := rfl;have hlen : (grow1 p b s).length = b.length := setI_length _ _ _;rw [e, ih h2 (fun x hx => by rw [hlen]; exact hl x (by simp [hx]))];have e2 : getI (grow1 p b s) c = if s = c then getI b c + (ch p c).grow else getI b c := by
      unfold grow1;rw [getI_set s1 hc s2];by_cases q : s = c
      · rw [if_pos q, if_pos q, q]
      · rw [if_neg q, if_neg q]
    rw [e2];by_cases q : s = c
    · subst q; rw [if_neg h1, if_pos rfl, if_pos (by simp)]
    · rw [if_neg q];by_cases q2 : c ∈ l
      · rw [if_pos q2, if_pos (by simp [q2])]
      · rw [if_neg q2, if_neg (by simp [q2]; exact fun e => q e.symm)]
def bOk (h : Int) : List Cal → List Bool → Prop
  | [], _ => True
  | c :: l, b => if c.hour ≠ h then bOk h l b else b.getD c.berth.toNat false = c.out ∧ bOk h l (b.set c.berth.toNat (!c.out))
def bAft (h : Int) : List Cal → List Bool → List Bool
  | [], b => b
  | c :: l, b => if c.hour ≠ h then bAft h l b else bAft h l (b.set c.berth.toNat (!c.out))
def bGe (n : Nat) (b : List Int) : Prop := b.length = n ∧ ∀ c : Int, 0 ≤ c → c < n → 0 ≤ getI b c
structure CalOk (p : Prt) (c : Cal) : Prop where
  b0 : 0 ≤ c.berth
  b1 : c.berth < p.bts.length
  nd : (bt p c.berth).path.Nodup
  rng : ∀ x ∈ (bt p c.berth).path, 0 ≤ x ∧ x < p.chs.length
  hm : c.most ≤ 1000000
theorem calls_sem {p : Prt} {h : Int} (hg : ∀ c : Int, 0 ≤ c → c < p.chs.length → 0 ≤ (ch p c).grow) {l : List Cal} : ∀ {i : Nat} {s : Stt}, (∀ c ∈ l, CalOk p c) → bGe p.chs.length s.brash → bOk h l s.busy →
    ((callsN p h l i s).2.1 = 0 ∧ (callsN p h l i s).1 = i + l.length ∧ bGe p.chs.length (callsN p h l i s).2.2.brash ∧ (callsN p h l i s).2.2.busy = bAft h l s.busy ∧
      ∀ c : Int, 0 ≤ c → c < p.chs.length → seqOk (caMaps p c h l) (getI s.brash c) ∧ getI (callsN p h l i s).2.2.brash c = seqAp (caMaps p c h l) (getI s.brash c)) ∨
    ((callsN p h l i s).2.1 = 8 ∧ i ≤ (callsN p h l i s).1 ∧ ∃ x c, l[(callsN p h l i s).1 - i]? = some x ∧ x.hour = h ∧ c ∈ (bt p x.berth).path ∧ ¬ seqOk (caMaps p c h l) (getI s.brash c)) := by
  induction l with
  | nil =>
    intro i s _ hb _;exact .inl ⟨rfl, rfl, hb, rfl, fun c _ _ => ⟨trivial, rfl⟩⟩
  | cons x l ih =>
    intro i s hl hb ho;have hx := hl x (by simp);have hl' : ∀ c ∈ l, CalOk p c := fun c hc => hl c (by simp [hc]);have shift : ∀ {j : Nat} {y : Cal}, i + 1 ≤ j → l[j - (i + 1)]? = some y → (x :: l)[j - i]? = some y := by
      intro j y hj hy;rw [show j - i = (j - (i + 1)) + 1 from by omega]; simpa using hy
    by_cases h1' : x.hour ≠ h
    · have h1 := h1';have e : callsN p h (x :: l) i s = callsN p h l (i + 1) s := by rw [callsN, if_pos h1]
      have eb : bAft h (x :: l) s.busy = bAft h l s.busy := by rw [bAft, if_pos h1]
      have em : ∀ c, caMaps p c h (x :: l) = caMaps p c h l := fun c => by unfold caMaps; rw [List.filter_cons_of_neg (by simp [h1])]
      rw [bOk, if_pos h1] at ho;rw [e, eb];simp only [em];rcases ih (i := i + 1) hl' hb ho with ⟨q1, q2, q3⟩ | ⟨q1, q2, y, c, q3, q4⟩
      · exact .inl ⟨q1, by rw [q2, List.length_cons]; omega, q3⟩
      · exact .inr ⟨q1, by omega, y, c, shift q2 q3, q4⟩
    · have h1 : x.hour = h := by omega
      rw [bOk, if_neg (by simp [h1])] at ho;have eb : bAft h (x :: l) s.busy = bAft h l (s.busy.set x.berth.toNat (!x.out)) := by rw [bAft, if_neg (by simp [h1])]
      have em : ∀ c, caMaps p c h (x :: l) = if c ∈ (bt p x.berth).path then ⟨(ch p c).grow, (ch p c).grow, x.most⟩ :: caMaps p c h l else caMaps p c h l := by
        intro c;unfold caMaps;by_cases q : c ∈ (bt p x.berth).path
        · rw [List.filter_cons_of_pos (by simp [h1, q]), if_pos q]; rfl
        · rw [List.filter_cons_of_neg (by simp [h1, q]), if_neg q]
      by_cases h2 : (bt p x.berth).path.any (fun n => decide (x.most < getI s.brash n)) = true
      · have e : callsN p h (x :: l) i s = (i, 8, s) := by rw [callsN, if_neg (by simp [h1]), if_neg (fun q => q ho.1), if_pos h2]
        rw [e];obtain ⟨c, hc, hd⟩ := List.any_eq_true.1 h2;refine .inr ⟨rfl, Nat.le_refl _, x, c, by simp, h1, hc, ?_⟩;rw [em, if_pos hc];intro hq;have := hq.1;have hd' : x.most < getI s.brash c := by simpa using hd
        have := hx.hm;simp only [limOk, NL] at *;omega
      · have e : callsN p h (x :: l) i s = callsN p h l (i + 1) ⟨growN p (bt p x.berth).path s.brash, s.busy.set x.berth.toNat (!x.out)⟩ := by
          rw [callsN, if_neg (by simp [h1]), if_neg (fun q => q ho.1), if_neg h2]
        have hgr : ∀ c : Int, 0 ≤ c → getI (growN p (bt p x.berth).path s.brash) c = if c ∈ (bt p x.berth).path then getI s.brash c + (ch p c).grow else getI s.brash c :=
          fun c hc => grow_sem hc hx.nd (fun y hy => by rw [hb.1]; exact hx.rng y hy)
        have hb' : bGe p.chs.length (growN p (bt p x.berth).path s.brash) := by
          refine ⟨by rw [growN_length]; exact hb.1, fun c c0 c1 => ?_⟩;rw [hgr c c0];have := hb.2 c c0 c1;have := hg c c0 c1;split <;> omega
        have h2' : ∀ c ∈ (bt p x.berth).path, getI s.brash c ≤ x.most := by
          intro c hc;have : ¬ x.most < getI s.brash c := fun hq => h2 (List.any_eq_true.2 ⟨c, hc, by simpa using hq⟩);omega
        have eo : ∀ c : Int, 0 ≤ c → c < p.chs.length → ((seqOk (caMaps p c h (x :: l)) (getI s.brash c) ↔ seqOk (caMaps p c h l) (getI (growN p (bt p x.berth).path s.brash) c)) ∧
            seqAp (caMaps p c h (x :: l)) (getI s.brash c) = seqAp (caMaps p c h l) (getI (growN p (bt p x.berth).path s.brash) c)) := by
          intro c c0 c1;rw [em, hgr c c0];have := hb.2 c c0 c1;by_cases q : c ∈ (bt p x.berth).path
          · rw [if_pos q, if_pos q];have ea : ap ⟨(ch p c).grow, (ch p c).grow, x.most⟩ (getI s.brash c) = getI s.brash c + (ch p c).grow := by simp only [ap]; omega
            refine ⟨?_, ?_⟩
            · simp only [seqOk, ea];exact ⟨fun z => z.2, fun z => ⟨.inr (h2' c q), z⟩⟩
            · simp only [seqAp, List.foldl_cons, ea]
          · rw [if_neg q, if_neg q]; exact ⟨Iff.rfl, rfl⟩
        rw [e, eb];rcases ih (i := i + 1) (s := ⟨growN p (bt p x.berth).path s.brash, s.busy.set x.berth.toNat (!x.out)⟩) hl' hb' ho.2 with ⟨q1, q2, q3, q4, q5⟩ | ⟨q1, q2, y, c, q3, q4, q5, q6⟩
        · refine .inl ⟨q1, by rw [q2, List.length_cons]; omega, q3, q4, fun c c0 c1 => ?_⟩;obtain ⟨o1, o2⟩ := eo c c0 c1;rw [o1, o2];exact q5 c c0 c1
        · refine .inr ⟨q1, by omega, y, c, shift q2 q3, q4, q5, ?_⟩;have hy : y ∈ l := List.mem_of_getElem? q3;obtain ⟨c0, c1⟩ := (hl' y hy).rng c q5;rw [(eo c c0 c1).1];exact q6
theorem frostN_length (p : Prt) (b : List Int) : ∀ k, (frostN p b k).length = b.length
  | 0 => rfl
  | k + 1 => by rw [frostN, setI_length, frostN_length]
theorem frostN_sem {p : Prt} {b : List Int} {c : Nat} : ∀ {k : Nat}, k ≤ b.length → c < b.length → getI (frostN p b k) c = if c < k then getI b c + (ch p c).frost else getI b c
  | 0, _, _ => by rw [if_neg (by omega)]; rfl
  | k + 1, hk, hc => by
    rw [frostN, getI_set (by omega) (by omega) (by rw [frostN_length]; omega)];rw [frostN_sem (by omega) (by omega : k < b.length), frostN_sem (by omega) hc];by_cases e : k = c
    · subst e; rw [if_pos rfl, if_neg (by omega), if_pos (by omega)]
    · rw [if_neg (by omega)];by_cases q : c < k
      · rw [if_pos q, if_pos (by omega)]
      · rw [if_neg q, if_neg (by omega)]
theorem frost_sem {p : Prt} {b : List Int} (hb : b.length = p.chs.length) {c : Int} (c0 : 0 ≤ c) (c1 : c < p.chs.length) : getI (frostL p b) c = getI b c + (ch p c).frost := by
  obtain ⟨k, rfl⟩ : ∃ k : Nat, c = k := ⟨c.toNat, by omega⟩;unfold frostL;rw [frostN_sem (by omega) (by omega), if_pos (by omega)]
theorem mapsH_eq (p : Prt) (l : Pln) (c : Int) (h : Nat) : mapsH p l c h = swMaps p c h l.swps ++ (caMaps p c h l.calls ++ [⟨(ch p c).frost, (ch p c).frost, NL⟩]) := rfl
theorem Val.calOk {p : Prt} {l : Pln} (v : Val p l) : ∀ c ∈ l.calls, CalOk p c := by
  intro c hc;have h1 := v.ca c hc;have h2 := v.btf _ (bt_mem h1.1 h1.2.1);exact ⟨h1.1, h1.2.1, h2.2.1, h2.2.2, h1.2.2.2.1⟩
theorem Val.chn {p : Prt} {l : Pln} (v : Val p l) {c : Int} (c0 : 0 ≤ c) (c1 : c < p.chs.length) : 0 ≤ (ch p c).grow ∧ (ch p c).grow ≤ 100 ∧ 0 ≤ (ch p c).frost ∧ (ch p c).frost ≤ 20 ∧ 1 ≤ (ch p c).clear ∧ (ch p c).clear ≤ 200 := v.chf _ (ch_mem c0 c1)
theorem swMaps_gm {p : Prt} {l : Pln} (v : Val p l) {c : Int} (c0 : 0 ≤ c) (c1 : c < p.chs.length) (h : Int) : ∀ m ∈ swMaps p c h l.swps, Gm m := by
  intro m hm;unfold swMaps at hm;obtain ⟨s, hs, rfl⟩ := List.mem_map.1 hm;have h1 := v.sw s (List.mem_filter.1 hs).1;have h2 := v.chn c0 c1;have h3 : s.tugs * (ch p c).clear ≤ 20 * 200 := Int.mul_le_mul (by omega) (by omega) (by omega) (by omega);have h4 : 0 ≤ s.tugs * (ch p c).clear := Int.mul_nonneg (by omega) (by omega);refine ⟨?_, ⟨Int.le_refl _, by simp only; omega⟩, by simp [NL], .inl rfl⟩;simp only;rw [Int.neg_mul];omega
theorem caMaps_gm {p : Prt} {l : Pln} (v : Val p l) {c : Int} (c0 : 0 ≤ c) (c1 : c < p.chs.length) (h : Int) : ∀ m ∈ caMaps p c h l.calls, Gm m := by
  intro m hm;unfold caMaps at hm;obtain ⟨x, hx, rfl⟩ := List.mem_map.1 hm;have h1 := v.ca x (List.mem_filter.1 hx).1;have h2 := v.chn c0 c1;exact ⟨⟨by simp only; omega, by simp only; omega⟩, ⟨by simp only; omega, by simp only; omega⟩, by simp only; omega, .inr (by simp only; omega)⟩
theorem frMap_gm {p : Prt} {l : Pln} (v : Val p l) {c : Int} (c0 : 0 ≤ c) (c1 : c < p.chs.length) : Gm ⟨(ch p c).frost, (ch p c).frost, NL⟩ := by
  have h2 := v.chn c0 c1;exact ⟨⟨by simp only; omega, by simp only; omega⟩, ⟨by simp only; omega, by simp only; omega⟩, by simp [NL], .inl rfl⟩
theorem mapsH_gm {p : Prt} {l : Pln} (v : Val p l) {c : Int} (c0 : 0 ≤ c) (c1 : c < p.chs.length) (h : Nat) : ∀ m ∈ mapsH p l c h, Gm m := by
  intro m hm;rw [mapsH_eq] at hm;rcases List.mem_append.1 hm with q | q
  · exact swMaps_gm v c0 c1 h m q
  rcases List.mem_append.1 q with q | q
  · exact caMaps_gm v c0 c1 h m q
  · rw [List.mem_singleton.1 q]; exact frMap_gm v c0 c1
theorem hour_sem {p : Prt} {l : Pln} (v : Val p l) (h : Nat) {s : Stt} (hb : bGe p.chs.length s.brash) (ho : bOk h l.calls s.busy) :
    ((hourR p l h s).2.1 = 0 ∧ bGe p.chs.length (hourS p l h s).brash ∧ (hourS p l h s).busy = bAft h l.calls s.busy ∧
      ∀ c : Int, 0 ≤ c → c < p.chs.length → seqOk (mapsH p l c h) (getI s.brash c) ∧ getI (hourS p l h s).brash c = seqAp (mapsH p l c h) (getI s.brash c)) ∨
    ((hourR p l h s).2.1 = 8 ∧ ∃ x c, l.calls[(hourR p l h s).1]? = some x ∧ x.hour = h ∧ c ∈ (bt p x.berth).path ∧ ¬ seqOk (mapsH p l c h) (getI s.brash c)) := by
  have hsw : ∀ c : Int, 0 ≤ c → getI (swpN p h l.swps s.brash) c = seqAp (swMaps p c h l.swps) (getI s.brash c) :=
    fun c c0 => swp_sem c0 (fun x hx => by have := v.sw x hx; rw [hb.1]; omega)
  have hswk : ∀ c : Int, ∀ b, seqOk (swMaps p c h l.swps) b := by
    intro c b;unfold swMaps;generalize l.swps.filter _ = L;induction L generalizing b with
    | nil => trivial
    | cons x L ih => exact ⟨.inl rfl, ih _⟩
  have hb1 : bGe p.chs.length (swpN p h l.swps s.brash) := by
    refine ⟨by rw [swpN_length]; exact hb.1, fun c c0 c1 => ?_⟩;rw [hsw c c0];exact seqAp_ge (swMaps_gm v c0 c1 h) (hb.2 c c0 c1)
  rcases calls_sem (h := h) (fun c c0 c1 => (v.chn c0 c1).1) (i := 0) (s := ⟨swpN p h l.swps s.brash, s.busy⟩) v.calOk hb1 ho with ⟨q1, q2, q3, q4, q5⟩ | ⟨q1, q2, x, c, q3, q4, q5, q6⟩
  · have hf : ∀ c : Int, 0 ≤ c → c < p.chs.length → getI (hourS p l h s).brash c = getI (hourR p l h s).2.2.brash c + (ch p c).frost := fun c c0 c1 => frost_sem q3.1 c0 c1;refine .inl ⟨q1, ⟨?_, fun c c0 c1 => ?_⟩, q4, fun c c0 c1 => ?_⟩
    · show (frostN _ _ _).length = _;rw [frostN_length]; exact q3.1
    · rw [hf c c0 c1];have := (v.chn c0 c1).2.2.1;have := q3.2 c c0 c1;simp only [hourR];omega
    · obtain ⟨o1, o2⟩ := q5 c c0 c1;simp only at o1 o2;rw [hsw c c0] at o1 o2;refine ⟨?_, ?_⟩
      · rw [mapsH_eq, seqOk_append, seqOk_append];exact ⟨hswk c _, o1, .inl rfl, trivial⟩
      · rw [hf c c0 c1, mapsH_eq, seqAp_append, seqAp_append];have e : getI (hourR p l h s).2.2.brash c = _ := o2;rw [e];have h3 := q3.2 c c0 c1;rw [o2] at h3;generalize seqAp (caMaps p c h l.calls) (seqAp (swMaps p c h l.swps) (getI s.brash c)) = z at *;simp only [seqAp, List.foldl_cons, List.foldl_nil, ap];omega
  · refine .inr ⟨q1, x, c, by simpa [hourR] using q3, q4, q5, fun hq => q6 ?_⟩;obtain ⟨c0, c1⟩ := (v.calOk x (List.mem_of_getElem? q3)).rng c q5;rw [mapsH_eq, seqOk_append, seqOk_append] at hq;simp only;rw [hsw c c0];exact hq.2.1
def mapsF (p : Prt) (l : Pln) (c : Int) (k n : Nat) : List Mp := (List.range' k n).flatMap (mapsH p l c)
theorem mapsF_succ (p : Prt) (l : Pln) (c : Int) (k n : Nat) : mapsF p l c k (n + 1) = mapsH p l c k ++ mapsF p l c (k + 1) n := by simp [mapsF, List.range'_succ]
theorem mapsS_eq (p : Prt) (l : Pln) (c : Int) : mapsS p l c = mapsF p l c 0 l.hours.toNat := by unfold mapsS mapsF; rw [List.range_eq_range']
def bOkF (l : Pln) : Nat → Nat → List Bool → Prop
  | _, 0, _ => True
  | k, n + 1, b => bOk k l.calls b ∧ bOkF l (k + 1) n (bAft k l.calls b)
def bAftF (l : Pln) : Nat → Nat → List Bool → List Bool
  | _, 0, b => b
  | k, n + 1, b => bAftF l (k + 1) n (bAft k l.calls b)
theorem runF_sem {p : Prt} {l : Pln} (v : Val p l) (s : Stt) : ∀ {n k : Nat}, bGe p.chs.length (stN p l s k).brash → bOkF l k n (stN p l s k).busy →
    ((runF p l s k n).2 = 0 ∧ (runF p l s k n).1 = l.calls.length ∧ bGe p.chs.length (stN p l s (k + n)).brash ∧ (stN p l s (k + n)).busy = bAftF l k n (stN p l s k).busy ∧
      ∀ c : Int, 0 ≤ c → c < p.chs.length → seqOk (mapsF p l c k n) (getI (stN p l s k).brash c) ∧ getI (stN p l s (k + n)).brash c = seqAp (mapsF p l c k n) (getI (stN p l s k).brash c)) ∨
    ((runF p l s k n).2 = 8 ∧ ∃ x c, l.calls[(runF p l s k n).1]? = some x ∧ c ∈ (bt p x.berth).path ∧ ¬ seqOk (mapsF p l c k n) (getI (stN p l s k).brash c)) := by
  intro n;induction n with
  | zero => intro k hb _; exact .inl ⟨rfl, rfl, hb, rfl, fun c _ _ => ⟨trivial, rfl⟩⟩
  | succ n ih =>
    intro k hb ho;rcases hour_sem v k hb ho.1 with ⟨q1, q2, q3, q4⟩ | ⟨q1, x, c, q2, _, q3, q4⟩
    · have e : runF p l s k (n + 1) = runF p l s (k + 1) n := by rw [runF, if_neg (by rw [q1]; simp)]
      have e1 : stN p l s (k + 1) = hourS p l k (stN p l s k) := rfl;have ho2 : bOkF l (k + 1) n (stN p l s (k + 1)).busy := by rw [e1, q3]; exact ho.2
      rcases ih (k := k + 1) q2 ho2 with ⟨r1, r2, r3, r4, r5⟩ | ⟨r1, x, c, r2, r3, r4⟩
      · rw [e, show k + (n + 1) = k + 1 + n from by omega];refine .inl ⟨r1, r2, r3, by rw [r4, e1, q3]; rfl, fun c c0 c1 => ?_⟩;obtain ⟨o1, o2⟩ := q4 c c0 c1;obtain ⟨o3, o4⟩ := r5 c c0 c1;rw [mapsF_succ, seqOk_append, seqAp_append];rw [e1, o2] at o3 o4;exact ⟨⟨o1, o3⟩, o4⟩
      · rw [e];refine .inr ⟨r1, x, c, r2, r3, fun hq => r4 ?_⟩;obtain ⟨c0, c1⟩ := (v.calOk x (List.mem_of_getElem? r2)).rng c r3;rw [mapsF_succ, seqOk_append] at hq;rw [e1, (q4 c c0 c1).2];exact hq.2
    · have e : runF p l s k (n + 1) = ((hourR p l k (stN p l s k)).1, (hourR p l k (stN p l s k)).2.1) := by rw [runF, if_pos (by rw [q1]; simp)]
      rw [e];refine .inr ⟨q1, x, c, q2, q3, fun hq => q4 ?_⟩;rw [mapsF_succ, seqOk_append] at hq;exact hq.1
def busyOk (l : Pln) (b : List Bool) : Prop := bOkF l 0 l.hours.toNat b
def busyAft (l : Pln) (b : List Bool) : List Bool := bAftF l 0 l.hours.toNat b
theorem run_sem {p : Prt} {l : Pln} (v : Val p l) {s : Stt} (hb : bGe p.chs.length s.brash) (ho : busyOk l s.busy) :
    ((runR p l s).2 = 0 ∧ (runR p l s).1 = l.calls.length ∧ bGe p.chs.length (stN p l s l.hours.toNat).brash ∧ (stN p l s l.hours.toNat).busy = busyAft l s.busy ∧
      ∀ c : Int, 0 ≤ c → c < p.chs.length → seqOk (mapsS p l c) (getI s.brash c) ∧ getI (stN p l s l.hours.toNat).brash c = seqAp (mapsS p l c) (getI s.brash c)) ∨
    ((runR p l s).2 = 8 ∧ ∃ x c, l.calls[(runR p l s).1]? = some x ∧ c ∈ (bt p x.berth).path ∧ ¬ seqOk (mapsS p l c) (getI s.brash c)) := by
  have h := runF_sem v s (n := l.hours.toNat) (k := 0) hb ho;rw [Nat.zero_add] at h;simp only [mapsS_eq];exact h
theorem filt_two {T : Type} (f : T → Int) (k n : Int) (hn : 0 ≤ n) (l : List T) : (l.filter fun x => decide (f x = k)).length + (l.filter fun x => decide (k + 1 ≤ f x) && decide (f x < k + 1 + n)).length = (l.filter fun x => decide (k ≤ f x) && decide (f x < k + (n + 1))).length := by
  induction l with
  | nil => rfl
  | cons x l ih =>
    by_cases h1 : f x = k
    · rw [List.filter_cons_of_pos (by simp [h1]), List.filter_cons_of_neg (by simp; omega), List.filter_cons_of_pos (by simp; omega), List.length_cons, List.length_cons]; omega
    · by_cases h2 : k + 1 ≤ f x ∧ f x < k + 1 + n
      · rw [List.filter_cons_of_neg (by simp [h1]), List.filter_cons_of_pos (by simpa using h2), List.filter_cons_of_pos (by simp; omega), List.length_cons, List.length_cons]; omega
      · rw [List.filter_cons_of_neg (by simp [h1]), List.filter_cons_of_neg (by simpa using h2), List.filter_cons_of_neg (by simp; omega)]; exact ih
theorem filt_and_le {T : Type} (f g : T → Bool) (l : List T) : (l.filter fun x => f x && g x).length ≤ (l.filter f).length := by
  induction l with
  | nil => exact Nat.le_refl _
  | cons x l ih => cases h1 : f x <;> cases h2 : g x <;> simp [List.filter_cons, h1, h2] <;> omega
theorem mapsF_length (p : Prt) (l : Pln) (c : Int) : ∀ (n k : Nat), (mapsF p l c k n).length ≤ (l.swps.filter fun x => decide ((k : Int) ≤ x.hour) && decide (x.hour < (k : Int) + n)).length + (l.calls.filter fun x => decide ((k : Int) ≤ x.hour) && decide (x.hour < (k : Int) + n)).length + n
  | 0, k => by simp [mapsF]
  | n + 1, k => by
    have ih := mapsF_length p l c n (k + 1);have e1 := filt_two (fun x : Swp => x.hour) k n (by omega) l.swps;have e2 := filt_two (fun x : Cal => x.hour) k n (by omega) l.calls;have e3 := filt_and_le (fun x : Swp => decide (x.hour = (k : Int))) (fun x => decide (x.channel = c)) l.swps;have e4 := filt_and_le (fun x : Cal => decide (x.hour = (k : Int))) (fun x => (bt p x.berth).path.contains c) l.calls;rw [mapsF_succ, List.length_append, mapsH_eq, List.length_append, List.length_append];simp only [swMaps, caMaps, List.length_map, List.length_singleton];simp only [Int.natCast_add, Int.natCast_one] at *;omega
theorem mapsS_length {p : Prt} {l : Pln} (v : Val p l) (c : Int) : (mapsS p l c).length ≤ 360 := by
  rw [mapsS_eq];have h := mapsF_length p l c l.hours.toNat 0;have h1 := List.length_filter_le (fun x : Swp => decide (((0 : Nat) : Int) ≤ x.hour) && decide (x.hour < ((0 : Nat) : Int) + (l.hours.toNat : Nat))) l.swps;have h2 := List.length_filter_le (fun x : Cal => decide (((0 : Nat) : Int) ≤ x.hour) && decide (x.hour < ((0 : Nat) : Int) + (l.hours.toNat : Nat))) l.calls;have := v.nx;have := v.h;omega
theorem mapsS_gm {p : Prt} {l : Pln} (v : Val p l) {c : Int} (c0 : 0 ≤ c) (c1 : c < p.chs.length) : ∀ m ∈ mapsS p l c, Gm m := by
  intro m hm;unfold mapsS at hm;obtain ⟨h, _, h2⟩ := List.mem_flatMap.1 hm;exact mapsH_gm v c0 c1 h m h2
theorem foldS_sem {p : Prt} {l : Pln} (v : Val p l) {c : Int} (c0 : 0 ≤ c) (c1 : c < p.chs.length) {b : Int} (hb : 0 ≤ b) :
    (limOk (foldS p l c) b ↔ seqOk (mapsS p l c) b) ∧ ap (foldS p l c) b = seqAp (mapsS p l c) b :=
  fold_id (mapsS_gm v c0 c1) (by have := mapsS_length v c; omega) hb
theorem foldS_jm {p : Prt} {l : Pln} (v : Val p l) {c : Int} (c0 : 0 ≤ c) (c1 : c < p.chs.length) : Jm 360 (foldS p l c) := by
  have h := fold_jm (mapsS_gm v c0 c1) id_jm (by have := mapsS_length v c; omega);have hl := mapsS_length v c;obtain ⟨⟨a, a'⟩, ⟨b, b'⟩, d, e, f⟩ := h;refine ⟨⟨?_, ?_⟩, ⟨b, ?_⟩, d, e, ?_⟩ <;> simp only [foldS] at * <;> omega
theorem run_folds {p : Prt} {l : Pln} (v : Val p l) {s : Stt} (hb : bGe p.chs.length s.brash) (ho : busyOk l s.busy) :
    ((runR p l s).2 = 0 ∧ (runR p l s).1 = l.calls.length ∧ bGe p.chs.length (stN p l s l.hours.toNat).brash ∧ (stN p l s l.hours.toNat).busy = busyAft l s.busy ∧
      ∀ c : Int, 0 ≤ c → c < p.chs.length → limOk (foldS p l c) (getI s.brash c) ∧ getI (stN p l s l.hours.toNat).brash c = ap (foldS p l c) (getI s.brash c)) ∨
    ((runR p l s).2 = 8 ∧ ∃ (x : Cal) (c : Int), l.calls[(runR p l s).1]? = some x ∧ 0 ≤ c ∧ c < p.chs.length ∧ c ∈ (bt p x.berth).path ∧ ¬ limOk (foldS p l c) (getI s.brash c)) := by
  rcases run_sem v hb ho with ⟨q1, q2, q3, q4, q5⟩ | ⟨q1, x, c, q2, q3, q4⟩
  · refine .inl ⟨q1, q2, q3, q4, fun c c0 c1 => ?_⟩;obtain ⟨e1, e2⟩ := foldS_sem v c0 c1 (hb.2 c c0 c1);rw [e1, e2];exact q5 c c0 c1
  · obtain ⟨c0, c1⟩ := (v.calOk x (List.mem_of_getElem? q2)).rng c q3;exact .inr ⟨q1, x, c, q2, c0, c1, q3, fun hq => q4 ((foldS_sem v c0 c1 (hb.2 c c0 c1)).1.1 hq)⟩
theorem within_iff {n a b : Int} : within n a b = true ↔ a ≤ n ∧ n ≤ b := by simp [within]
theorem pathOk_get {n : Int} {l : List Int} : ∀ {m : Nat}, pathOk n l m = true → ∀ k, k < m → within (l.getD k 0) 0 (n - 1) = true ∧ (l.take k).contains (l.getD k 0) = false
  | 0, _, k, hk => absurd hk (by omega)
  | m + 1, h, k, hk => by
    rw [pathOk, Bool.and_eq_true, Bool.and_eq_true] at h;by_cases e : k = m
    · subst e; exact ⟨h.2.1, by simpa using h.2.2⟩
    · exact pathOk_get h.1 k (by omega)
theorem path_ok {n : Int} {l : List Int} (h : pathOk n l l.length = true) : l.Nodup ∧ ∀ x ∈ l, 0 ≤ x ∧ x < n := by
  refine ⟨?_, fun x hx => ?_⟩
  · rw [List.nodup_iff_pairwise_ne];rw [List.pairwise_iff_getElem];intro i j hi hj hij e;have := (pathOk_get h j hj).2;rw [List.getD_eq_getElem?_getD, List.getElem?_eq_getElem hj, Option.getD_some, ← e] at this;simp only [List.contains_eq_mem, decide_eq_false_iff_not] at this;exact this (List.mem_take_iff_getElem.2 ⟨i, by omega, rfl⟩)
  · obtain ⟨k, hk, rfl⟩ := List.mem_iff_getElem.1 hx;have := (pathOk_get h k hk).1;rw [List.getD_eq_getElem?_getD, List.getElem?_eq_getElem hk, Option.getD_some, within_iff] at this;omega
theorem nodup_range_le : ∀ {n : Nat} {l : List Int}, l.Nodup → (∀ x ∈ l, 0 ≤ x ∧ x < n) → l.length ≤ n
  | 0, l, _, h => by
    cases l with
    | nil => exact Nat.le_refl _
    | cons x l => have := h x (by simp); omega
  | n + 1, l, hn, h => by
    have h1 := nodup_range_le (n := n) (l := l.filter (fun x => decide (x ≠ (n : Int)))) (hn.filter _) (fun x hx => by
      have h2 := List.mem_filter.1 hx;have h3 := h x h2.1;have h4 : x ≠ (n : Int) := by simpa using h2.2
      omega)
    have h5 : l.length ≤ (l.filter (fun x => decide (x ≠ (n : Int)))).length + 1 := by
      clear h h1;induction l with
      | nil => simp
      | cons x l ih =>
        obtain ⟨h6, h7⟩ := List.nodup_cons.1 hn;by_cases e : x = (n : Int)
        · subst e;have : l.filter (fun x => decide (x ≠ (n : Int))) = l := List.filter_eq_self.2 fun y hy => by
            simp only [ne_eq, decide_eq_true_eq];rintro rfl;exact h6 hy
          rw [List.filter_cons_of_neg (by simp), this, List.length_cons];omega
        · rw [List.filter_cons_of_pos (by simpa using e), List.length_cons, List.length_cons];have := ih h7;omega
    omega
structure PVal (p : Prt) : Prop where
  nc : 1 ≤ p.chs.length ∧ p.chs.length ≤ 6
  nb : 1 ≤ p.bts.length ∧ p.bts.length ≤ 4
  tg : 0 ≤ p.tugs ∧ p.tugs ≤ 20
  chf : ∀ c ∈ p.chs, 0 ≤ c.grow ∧ c.grow ≤ 100 ∧ 0 ≤ c.frost ∧ c.frost ≤ 20 ∧ 1 ≤ c.clear ∧ c.clear ≤ 200
  btf : ∀ b ∈ p.bts, 10 ≤ b.depth ∧ b.depth ≤ 3000 ∧ b.path ≠ [] ∧ b.path.Nodup ∧ ∀ x ∈ b.path, 0 ≤ x ∧ x < p.chs.length
theorem checkP_ok {p : Prt} (h : checkP p = 0) : PVal p := by
  unfold checkP at h;split at h
  · cases h
  split at h
  · cases h
  split at h
  · cases h
  split at h
  · cases h
  rename_i h1 h2 h3 h4
  simp only [Bool.not_eq_false] at h1 h2 h3 h4;rw [Bool.and_eq_true, within_iff, within_iff] at h1;rw [within_iff] at h2;refine ⟨by omega, by omega, h2, fun c hc => ?_, fun b hb => ?_⟩
  · have := List.all_eq_true.1 h3 c hc;unfold Pt.chOk at this;simp only [Bool.and_eq_true, within_iff] at this;omega
  · have := List.all_eq_true.1 h4 b hb;unfold btOk at this;simp only [Bool.and_eq_true, within_iff] at this;obtain ⟨a1, a2, a3⟩ := this;obtain ⟨q1, q2⟩ := path_ok a3;exact ⟨a1.1, a1.2, by rintro e; rw [e] at a2; simp at a2, q1, q2⟩
theorem callE_ok {p : Prt} {h : Int} {c : Cal} {f : Int} (e : callE p h c f = 0) : 0 ≤ c.berth ∧ c.berth < p.bts.length ∧ 0 ≤ c.most ∧ c.most ≤ 1000000 ∧ 0 ≤ c.tugs ∧ c.tugs ≤ 20 ∧ 10 ≤ c.draught ∧ c.draught ≤ (bt p c.berth).depth ∧ 0 ≤ c.hour ∧ c.hour < h ∧ f ≤ c.hour := by
  unfold callE at e;split at e
  · cases e
  split at e
  · cases e
  split at e
  · cases e
  split at e
  · cases e
  rename_i h1 h2 h3 h4
  simp only [Bool.not_eq_false, Bool.and_eq_true, within_iff] at h1 h2 h3;omega
theorem callsE_ok {p : Prt} {h : Int} : ∀ {l : List Cal} {f : Int}, callsE p h f l = 0 → (∀ c ∈ l, 0 ≤ c.berth ∧ c.berth < p.bts.length ∧ 0 ≤ c.most ∧ c.most ≤ 1000000 ∧ 0 ≤ c.tugs ∧ c.tugs ≤ 20 ∧ 10 ≤ c.draught ∧ c.draught ≤ (bt p c.berth).depth ∧ 0 ≤ c.hour ∧ c.hour < h ∧ f ≤ c.hour) ∧ l.Pairwise (fun a b => a.hour ≤ b.hour)
  | [], _, _ => ⟨by simp, List.Pairwise.nil⟩
  | c :: l, f, e => by
    rw [callsE] at e;split at e
    · rename_i h1; exact absurd e h1
    · rename_i h1
      have h1 : callE p h c f = 0 := by simpa using h1
      have h2 := callE_ok h1;obtain ⟨h3, h4⟩ := callsE_ok e;refine ⟨fun x hx => ?_, List.pairwise_cons.2 ⟨fun x hx => by have := h3 x hx; omega, h4⟩⟩;rcases List.mem_cons.1 hx with rfl | hx
      · exact h2
      · have := h3 x hx; omega
theorem swpsE_ok {p : Prt} {h : Int} : ∀ {l : List Swp}, swpsE p h l = 0 → ∀ s ∈ l, 0 ≤ s.channel ∧ s.channel < p.chs.length ∧ 1 ≤ s.tugs ∧ s.tugs ≤ 20 ∧ 0 ≤ s.hour ∧ s.hour < h
  | [], _, s, hs => by simp at hs
  | x :: l, e, s, hs => by
    rw [swpsE] at e;split at e
    · rename_i h1; exact absurd e h1
    · rename_i h1
      have h1 : swpE p h x = 0 := by simpa using h1
      rcases List.mem_cons.1 hs with rfl | hs
      · unfold swpE at h1;split at h1
        · cases h1
        split at h1
        · cases h1
        rename_i h2 h3
        simp only [Bool.not_eq_false, Bool.and_eq_true, within_iff] at h2 h3;omega
      · exact swpsE_ok e s hs
theorem checkL_ok {p : Prt} {l : Pln} (h : checkL p l = 0) : checkP p = 0 ∧ (l.calls.length ≤ 60 ∧ l.swps.length ≤ 200) ∧ (1 ≤ l.hours ∧ l.hours ≤ 100) ∧ callsE p l.hours 0 l.calls = 0 ∧ swpsE p l.hours l.swps = 0 ∧
    finE p.tugs (l.swps.foldl addSwp (tlyCalls p l.hours.toNat l.calls).tugs) (tlyCalls p l.hours.toNat l.calls).twice 0 l.hours.toNat = 0 := by
  unfold checkL at h;split at h
  · rename_i h1; exact absurd h h1
  split at h
  · cases h
  split at h
  · cases h
  split at h
  · rename_i h1; exact absurd h h1
  split at h
  · rename_i h1; exact absurd h h1
  rename_i h1 h2 h3 h4 h5
  simp only [Bool.not_eq_false, within_iff] at h3;exact ⟨by simpa using h1, by omega, h3, by simpa using h4, by simpa using h5, h⟩
theorem val_of {p : Prt} {l : Pln} (h : checkL p l = 0) : Val p l := by
  obtain ⟨h1, h2, h3, h4, h5, _⟩ := checkL_ok h;have hp := checkP_ok h1;obtain ⟨h6, _⟩ := callsE_ok h4;have h7 := swpsE_ok h5;exact ⟨hp.nc, hp.nb, h3, h2, hp.chf, fun b hb => (hp.btf b hb).2.2, fun c hc => by have := h6 c hc; omega, fun s hs => by have := h7 s hs; omega⟩
theorem hit_tugs (h : Int) (l : List Int) : ∀ t : Tly, (l.foldl (hit1 h) t).tugs = t.tugs := by
  induction l with
  | nil => intro t; rfl
  | cons n l ih => intro t; rw [List.foldl_cons, ih]; rfl
theorem getI_setI_bd {l : List Int} {k x B : Int} (hk : 0 ≤ k) (hl : ∀ j, -B ≤ getI l j ∧ getI l j ≤ B) (hx : -B ≤ x ∧ x ≤ B) : ∀ j, -B ≤ getI (setI l k x) j ∧ getI (setI l k x) j ≤ B := by
  intro j;have h0 := hl j;unfold getI setI at *;simp only [List.getD_eq_getElem?_getD, List.getElem?_set] at *;split
  · split
    · simpa using hx
    · have := hl (l.length : Int); simp at this; simpa using (by omega : -B ≤ 0 ∧ 0 ≤ B)
  · exact h0
theorem tly_bd (p : Prt) : ∀ (l : List Cal) (t : Tly) (B : Int), (∀ j, -B ≤ getI t.tugs j ∧ getI t.tugs j ≤ B) → (∀ c ∈ l, 0 ≤ c.hour ∧ 0 ≤ c.tugs ∧ c.tugs ≤ 20) →
    ∀ j, -(B + 20 * l.length) ≤ getI (l.foldl (tlyCall p) t).tugs j ∧ getI (l.foldl (tlyCall p) t).tugs j ≤ B + 20 * l.length
  | [], t, B, h, _, j => by simpa using h j
  | c :: l, t, B, h, hc, j => by
    obtain ⟨c1, c2, c3⟩ := hc c (by simp);have h1 : ∀ j, -(B + 20) ≤ getI (tlyCall p t c).tugs j ∧ getI (tlyCall p t c).tugs j ≤ B + 20 := by
      rw [tlyCall, hit_tugs];refine getI_setI_bd c1 (fun j => by have := h j; omega) ?_;have := h c.hour;omega
    have := tly_bd p l (tlyCall p t c) (B + 20) h1 (fun x hx => hc x (by simp [hx])) j;rw [List.foldl_cons, List.length_cons];omega
theorem swp_bd : ∀ (l : List Swp) (t : List Int) (B : Int), (∀ j, -B ≤ getI t j ∧ getI t j ≤ B) → (∀ s ∈ l, 0 ≤ s.hour ∧ 0 ≤ s.tugs ∧ s.tugs ≤ 20) →
    ∀ j, -(B + 20 * l.length) ≤ getI (l.foldl addSwp t) j ∧ getI (l.foldl addSwp t) j ≤ B + 20 * l.length
  | [], t, B, h, _, j => by simpa using h j
  | c :: l, t, B, h, hc, j => by
    obtain ⟨c1, c2, c3⟩ := hc c (by simp);have h1 : ∀ j, -(B + 20) ≤ getI (addSwp t c) j ∧ getI (addSwp t c) j ≤ B + 20 := by
      refine getI_setI_bd c1 (fun j => by have := h j; omega) ?_;have := h c.hour;omega
    have := swp_bd l (addSwp t c) (B + 20) h1 (fun x hx => hc x (by simp [hx])) j;rw [List.foldl_cons, List.length_cons];omega
theorem tly0_get (H : Nat) (j : Int) : getI (tly0 H).tugs j = 0 := by
  unfold getI tly0;simp only [List.getD_eq_getElem?_getD, List.getElem?_replicate];split <;> rfl
end Go.Proofs.Ytalcinepeofmcaa.Pt
namespace Go.Proofs.Ytalcinepeofmcaa
open Go
def hasReg (n : Nat) : Code → Bool
  | .region k _ _ => k == n
  | .loop c => hasReg n c
  | .seq a b => hasReg n a || hasReg n b
  | .block _ c => hasReg n c
  | .scope c => hasReg n c
  | .cond _ a b => hasReg n a || hasReg n b
  | _ => false
def restAt (n : Nat) : Code → Code
  | .seq a b => if hasReg n a then .seq a b else restAt n b
  | .scope c => restAt n c
  | c => c
noncomputable def restOf (f : Func) (n : Nat) : Code := restAt n (f.body.getD .skip)
end Go.Proofs.Ytalcinepeofmcaa
