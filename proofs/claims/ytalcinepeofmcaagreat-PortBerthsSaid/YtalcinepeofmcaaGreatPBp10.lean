import Derived.Test.YtalcinepeofmcaaGreatPBp9
import Derived.Test.YtalcinepeofmcaaGreatPBp6
set_option linter.unusedVariables false
set_option linter.unusedSimpArgs false
set_option maxRecDepth 100000
set_option maxHeartbeats 40000000
namespace Go.Proofs.YtalcinepeofmcaaGreat
open Go Go.RowKit Sp Pt
theorem over_any {w : World} {bw wb gb xb n c1 k : Nat} {x mo : Int} (h1 : w.cell? ⟨bw, 0, none⟩ = some (.pointer (some ⟨wb, 0, none⟩))) (h2 : w.cell? ⟨wb, 2, none⟩ = some (.slice (some ⟨gb, 0, none⟩) n c1)) (h3 : w.cell? ⟨gb, k, none⟩ = some (.int .i64 x)) (h4 : w.cell? ⟨xb, 4, none⟩ = some (.int .i64 mo)) (hk : k < n) (m : Nat) :
    Calls Tryz.prog 96 #[.int .i64 k, .pointer (some ⟨bw, 0, none⟩), .pointer (some ⟨xb, 0, none⟩)] (w.drewN m) fun e w' => e = .returned (.bool (decide (mo < x))) ∧ ∃ m', w' = w.drewN m' := by
  have z1 := World.block_lt_of_cell? _ _ h1;have z2 := World.block_lt_of_cell? _ _ h2;have z3 := World.block_lt_of_cell? _ _ h3;have z4 := World.block_lt_of_cell? _ _ h4;have k1 : (0 : Int) ≤ (k : Int) := by omega
  have k2 : (k : Int) < (n : Int) := by omega
  obtain ⟨W, hW⟩ : ∃ W, W = w.drewN m := ⟨_, rfl⟩;have g1 : W.cell? ⟨bw, 0, none⟩ = some (.pointer (some ⟨wb, 0, none⟩)) := by rw [hW]; exact h1
  have g2 : W.cell? ⟨wb, 2, none⟩ = some (.slice (some ⟨gb, 0, none⟩) n c1) := by rw [hW]; exact h2
  have g3 : W.cell? ⟨gb, k, none⟩ = some (.int .i64 x) := by rw [hW]; exact h3
  have g4 : W.cell? ⟨xb, 4, none⟩ = some (.int .i64 mo) := by rw [hW]; exact h4
  have y1 : bw < W.heap.size := by rw [hW]; exact z1
  have y2 : wb < W.heap.size := by rw [hW]; exact z2
  have y3 : gb < W.heap.size := by rw [hW]; exact z3
  have y4 : xb < W.heap.size := by rw [hW]; exact z4
  rw [← hW];have HW := Lib.hid hW;clear hW h1 h2 h3 h4 z1 z2 z3 z4
  go_enter Tryz.func96, Tryz.ntmps96
  go_wp2_with fail
  go_quiet (fail);go_wp2_with fail
  go_ret;refine ⟨rfl, m + nq, ?_⟩;rw [HW.out];simp [World.drewN, Nat.add_assoc]
def CgV (W0 : World) (bw wb gb pb bc oc n c1 cc k : Nat) (x gr : Int) : Nat → Value → Prop
  | 0, v => v = .pointer (some ⟨wb, 0, none⟩)
  | 1, v => v = .pointer (some ⟨wb, 0, none⟩)
  | 2, v => v = .pointer (some ⟨wb, 2, none⟩)
  | 3, v => v = .slice (some ⟨gb, 0, none⟩) n c1
  | 4, v => v = .int .i64 k
  | 5, v => v = .pointer (some ⟨gb, k, none⟩)
  | 6, v => v = .int .i64 x
  | 7, v => v = .pointer (some ⟨wb, 0, none⟩)
  | 8, v => v = .pointer (some ⟨wb, 0, none⟩)
  | 9, v => v = .pointer (some ⟨wb, 0, none⟩)
  | 10, v => v = .pointer (some ⟨pb, 0, none⟩)
  | 11, v => v = .pointer (some ⟨pb, 0, none⟩)
  | 12, v => v = .pointer (some ⟨pb, 0, none⟩)
  | 13, v => v = .slice (some ⟨bc, oc, none⟩) n cc
  | 14, v => v = .int .i64 k
  | 15, v => v = .pointer (some ⟨bc, oc + k * 3, none⟩)
  | 16, v => v = .pointer (some ⟨bc, oc + k * 3, none⟩)
  | 17, v => v = .int .i64 gr
  | 18, v => v = .int .i64 (x + gr)
  | 19, v => v = .pointer (some ⟨gb, k, none⟩)
  | _, _ => True
def CgW (W0 : World) (bw wb gb pb bc oc n c1 cc k : Nat) (x gr : Int) (l : Nat → Bool) (w : World) : Prop := if l 20 then w = (W0.setCell ⟨gb, k, none⟩ (.int .i64 (x + gr))).drew else w = W0.drew
theorem caIn {c : WC} {W0 wr : World} {bw pk pq M ck j k : Nat} {s : Stt} (E : WcE c W0 (brV c) (buV c)) (N : WcN c) (S : WkS c W0 wr s) (hbw : W0.cell? ⟨bw, 0, none⟩ = some (.pointer (some ⟨c.wb, 0, none⟩))) (hbn : bw ≠ c.gb ∧ bw ≠ c.ub) (hj : j < M) (hM : M ≤ 1000) (hpj : W0.cell? ⟨pk, pq + j, none⟩ = some (.int .i64 k)) (hpD : pk < c.D) (hk : k < c.p.chs.length) (hgr : ∀ x ∈ c.p.chs, 0 ≤ x.grow ∧ x.grow ≤ 100) (hcn : c.p.chs.length ≤ 1000) (hbr : brR 100000000000 s.brash) {s0 s1 s3 s4 s5 s6 s7 s8 s9 s10 s11 s12 s13 s14 s15 s16 s17 s18 s19 s20 s21 s22 s23 s24 s25 s26 s27 s28 s29 s30 s31 s32 s33 s34 s35 s36 s37 s38 s39 s40 s41 s42 s43 s44 s45 s46 s47 s48 s49 s50 s51 s52 s53 s54 s55 s56 s57 s58 s59 s60 s61 s62 s63 s64 s65 s69 s70 s71 s72 s73 s74 s75 s76 s77 s78 s79 s80 s81 s82 s83 s84 s85 s86 s87 s88 s89 s90 s91 s92 s93 s94 s95 s96 s97 s98 s99 s100 s101 : Value} {Q0 : Exit → Act → World → Prop} {Inv : Act → World → Prop}
    (hInv : ∀ (t10 t69 t70 t71 t72 t73 t74 t75 t76 t77 t78 t79 t80 t81 t82 t83 t84 t85 t86 t87 t88 t89 t90 t91 t92 : Value)  (w' : World), WkS c W0 w' ⟨grow1 c.p s.brash k, s.busy⟩ → Inv ⟨#[s0, s1, .pointer (some ⟨bw, 0, none⟩), s3, s4, s5, s6, s7, s8, s9, t10, s11, s12, s13, s14, s15, s16, s17, s18, s19, s20, s21, s22, s23, s24, s25, s26, s27, s28, s29, s30, s31, s32, s33, s34, s35, s36, s37, s38, s39, s40, s41, s42, s43, s44, s45, s46, s47, s48, s49, s50, s51, s52, s53, s54, s55, s56, s57, s58, s59, s60, s61, s62, s63, s64, s65, .slice (some ⟨pk, pq, none⟩) M ck, .int .i64 M, .int .i64 ((j + 1 : Nat) : Int), t69, t70, t71, t72, t73, t74, t75, t76, t77, t78, t79, t80, t81, t82, t83, t84, t85, t86, t87, t88, t89, t90, t91, t92, s93, s94, s95, s96, s97, s98, s99, s100, s101], []⟩ w') :
    Code.wp Tryz.prog (loopBody Tryz.f78 1) (Exit.then Inv Q0) ⟨#[s0, s1, .pointer (some ⟨bw, 0, none⟩), s3, s4, s5, s6, s7, s8, s9, s10, s11, s12, s13, s14, s15, s16, s17, s18, s19, s20, s21, s22, s23, s24, s25, s26, s27, s28, s29, s30, s31, s32, s33, s34, s35, s36, s37, s38, s39, s40, s41, s42, s43, s44, s45, s46, s47, s48, s49, s50, s51, s52, s53, s54, s55, s56, s57, s58, s59, s60, s61, s62, s63, s64, s65, .slice (some ⟨pk, pq, none⟩) M ck, .int .i64 M, .int .i64 j, s69, s70, s71, s72, s73, s74, s75, s76, s77, s78, s79, s80, s81, s82, s83, s84, s85, s86, s87, s88, s89, s90, s91, s92, s93, s94, s95, s96, s97, s98, s99, s100, s101], []⟩ wr := by
  conv => arg 2; whnf
  have E2 := E.at N S;obtain ⟨bc, oc, eAc, hbc, h0, h1, h2⟩ := chAt E2.PB hk;have zc := World.block_lt_of_cell? _ _ h0;have cbd := hgr _ (ch_mem (p := c.p) (i := (k : Int)) (by omega) (by omega));obtain ⟨gr, hgre⟩ : ∃ gr, gr = (ch c.p k).grow := ⟨_, rfl⟩;rw [← hgre] at h0 cbd;have dj : wr.cell? ⟨pk, pq + j, none⟩ = some (.int .i64 k) := S.kp.cell hpj (by have := N.g; have := N.u; simp; omega);have q0 : wr.cell? ⟨bw, 0, none⟩ = some (.pointer (some ⟨c.wb, 0, none⟩)) := S.kp.cell hbw (by simpa using hbn);have zb := World.block_lt_of_cell? _ _ q0;have zj := World.block_lt_of_cell? _ _ dj;obtain ⟨q1, _, q2, _, q3, _, _, _, _, z1, z2, _⟩ := E2.cells;have q4 := S.brAt hk;have q6 := (S.br.one (A := none)).2.2 k;have z3 := (S.br.one (A := none)).1;obtain ⟨x, hx⟩ : ∃ x, x = getI s.brash k := ⟨_, rfl⟩;have hxr := hbr k;rw [← hx] at q4 hxr;rw [eAc] at q3;have HI := Lib.hid hInv;have HS := Lib.hid (And.intro S (And.intro hx hgre));have k1 : (0 : Int) ≤ (k : Int) := by omega
  have k2 : (k : Int) < (c.p.chs.length : Int) := by omega
  clear hInv S E E2 hx hbr hgr eAc hbc hgre h1 h2 hpj hbw;go_upto_region 14 with fail
  refine wRS (σ := Unit) (by kernel_rfl) (by kernel_rfl) (fun _ jx vx _ => CgV wr bw c.wb c.gb c.pb bc oc c.p.chs.length c.c1 c.cc k x gr jx vx) (fun _ ly wx => CgW wr bw c.wb c.gb c.pb bc oc c.p.chs.length c.c1 c.cc k x gr ly wx) () ?_ ?_ ?_
  · exact (by unfold CgW; rw [if_neg (by simp)])
  · simp only [AllFrom, Nat.zero_add, Nat.reduceAdd];refine ⟨?_, ?_, ?_, ?_, ?_, ?_, ?_, ?_, ?_, ?_, ?_, ?_, ?_, ?_, ?_, ?_, ?_, ?_, ?_, ?_, ?_, trivial⟩
    · refine sP_ fun sg ly a wr hl hd hW hF => ?_;have et2 := hF.old 2 (by kernel_rfl);simp [Act.eval] at et2;have nL_1 := hF.notYet 0 1 hl (by kernel_rfl);have nL_2 := hF.notYet 1 2 nL_1 (by kernel_rfl);have nL_3 := hF.notYet 2 3 nL_2 (by kernel_rfl);have nL_19 := hF.notYet 3 19 nL_3 (by kernel_rfl);have nL := hF.notYet 19 20 nL_19 (by kernel_rfl);have hW' := hW;unfold CgW at hW';rw [if_neg (by simp [nL])] at hW';subst hW';exact ⟨by unfold CgW; rw [if_neg (by simp [upd, nL])], _, by go_simp, rfl⟩
    · refine sP_ fun sg ly a wr hl hd hW hF => ?_;simp [Region.binds] at hd;have et72 := hF.new 0 72 (by simp [hd]) rfl;simp [CgV, Act.eval] at et72;exact ⟨by simpa [CgW, upd] using hW, .pointer (some ⟨c.wb, 0, none⟩), by go_simp, rfl⟩
    · refine sP_ fun sg ly a wr hl hd hW hF => ?_;simp [Region.binds] at hd;have et73 := hF.new 1 73 (by simp [hd]) rfl;simp [CgV, Act.eval] at et73;exact ⟨by simpa [CgW, upd] using hW, .pointer (some ⟨c.wb, 2, none⟩), by go_simp, rfl⟩
    · refine sP_ fun sg ly a wr hl hd hW hF => ?_;simp [Region.binds] at hd;have et74 := hF.new 2 74 (by simp [hd]) rfl;simp [CgV, Act.eval] at et74;have nL_19 := hF.notYet 3 19 hl (by kernel_rfl);have nL := hF.notYet 19 20 nL_19 (by kernel_rfl);have hW' := hW;unfold CgW at hW';rw [if_neg (by simp [nL])] at hW';subst hW';exact ⟨by unfold CgW; rw [if_neg (by simp [upd, nL])], _, by go_simp, rfl⟩
    · refine sP_ fun sg ly a wr hl hd hW hF => ?_;have et10 := hF.old 10 (by kernel_rfl);simp [Act.eval] at et10;exact ⟨by simpa [CgW, upd] using hW, .int .i64 k, by go_simp, rfl⟩
    · refine sP_ fun sg ly a wr hl hd hW hF => ?_;simp [Region.binds] at hd;have et75 := hF.new 3 75 (by simp [hd]) rfl;simp [CgV, Act.eval] at et75;have et76 := hF.new 4 76 (by simp [hd]) rfl;simp [CgV, Act.eval] at et76;exact ⟨by simpa [CgW, upd] using hW, .pointer (some ⟨c.gb, k, none⟩), by go_simp, rfl⟩
    · refine sP_ fun sg ly a wr hl hd hW hF => ?_;simp [Region.binds] at hd;have et77 := hF.new 5 77 (by simp [hd]) rfl;simp [CgV, Act.eval] at et77;have nL_18 := hF.notYet 6 18 hl (by kernel_rfl);have nL := hF.notYet 18 20 nL_18 (by kernel_rfl);have hW' := hW;unfold CgW at hW';rw [if_neg (by simp [nL])] at hW';subst hW';exact ⟨by unfold CgW; rw [if_neg (by simp [upd, nL])], _, by go_simp, rfl⟩
    · refine sP_ fun sg ly a wr hl hd hW hF => ?_;have et2 := hF.old 2 (by kernel_rfl);simp [Act.eval] at et2;have nL_8 := hF.notYet 7 8 hl (by kernel_rfl);have nL_9 := hF.notYet 8 9 nL_8 (by kernel_rfl);have nL_10 := hF.notYet 9 10 nL_9 (by kernel_rfl);have nL_11 := hF.notYet 10 11 nL_10 (by kernel_rfl);have nL_12 := hF.notYet 11 12 nL_11 (by kernel_rfl);have nL_13 := hF.notYet 12 13 nL_12 (by kernel_rfl);have nL_15 := hF.notYet 13 15 nL_13 (by kernel_rfl);have nL_16 := hF.notYet 15 16 nL_15 (by kernel_rfl);have nL_17 := hF.notYet 16 17 nL_16 (by kernel_rfl);have nL_18 := hF.notYet 17 18 nL_17 (by kernel_rfl);have nL := hF.notYet 18 20 nL_18 (by kernel_rfl);have hW' := hW;unfold CgW at hW';rw [if_neg (by simp [nL])] at hW';subst hW';exact ⟨by unfold CgW; rw [if_neg (by simp [upd, nL])], _, by go_simp, rfl⟩
    · refine sP_ fun sg ly a wr hl hd hW hF => ?_;simp [Region.binds] at hd;have et79 := hF.new 7 79 (by simp [hd]) rfl;simp [CgV, Act.eval] at et79;exact ⟨by simpa [CgW, upd] using hW, .pointer (some ⟨c.wb, 0, none⟩), by go_simp, rfl⟩
    · refine sP_ fun sg ly a wr hl hd hW hF => ?_;simp [Region.binds] at hd;have et80 := hF.new 8 80 (by simp [hd]) rfl;simp [CgV, Act.eval] at et80;exact ⟨by simpa [CgW, upd] using hW, .pointer (some ⟨c.wb, 0, none⟩), by go_simp, rfl⟩
    · refine sP_ fun sg ly a wr hl hd hW hF => ?_;simp [Region.binds] at hd;have et81 := hF.new 9 81 (by simp [hd]) rfl;simp [CgV, Act.eval] at et81;have nL_11 := hF.notYet 10 11 hl (by kernel_rfl);have nL_12 := hF.notYet 11 12 nL_11 (by kernel_rfl);have nL_13 := hF.notYet 12 13 nL_12 (by kernel_rfl);have nL_15 := hF.notYet 13 15 nL_13 (by kernel_rfl);have nL_16 := hF.notYet 15 16 nL_15 (by kernel_rfl);have nL_17 := hF.notYet 16 17 nL_16 (by kernel_rfl);have nL_18 := hF.notYet 17 18 nL_17 (by kernel_rfl);have nL := hF.notYet 18 20 nL_18 (by kernel_rfl);have hW' := hW;unfold CgW at hW';rw [if_neg (by simp [nL])] at hW';subst hW';exact ⟨by unfold CgW; rw [if_neg (by simp [upd, nL])], _, by go_simp, rfl⟩
    · refine sP_ fun sg ly a wr hl hd hW hF => ?_;simp [Region.binds] at hd;have et82 := hF.new 10 82 (by simp [hd]) rfl;simp [CgV, Act.eval] at et82;exact ⟨by simpa [CgW, upd] using hW, .pointer (some ⟨c.pb, 0, none⟩), by go_simp, rfl⟩
    · refine sP_ fun sg ly a wr hl hd hW hF => ?_;simp [Region.binds] at hd;have et83 := hF.new 11 83 (by simp [hd]) rfl;simp [CgV, Act.eval] at et83;exact ⟨by simpa [CgW, upd] using hW, .pointer (some ⟨c.pb, 0, none⟩), by go_simp, rfl⟩
    · refine sP_ fun sg ly a wr hl hd hW hF => ?_;simp [Region.binds] at hd;have et84 := hF.new 12 84 (by simp [hd]) rfl;simp [CgV, Act.eval] at et84;have nL_15 := hF.notYet 13 15 hl (by kernel_rfl);have nL_16 := hF.notYet 15 16 nL_15 (by kernel_rfl);have nL_17 := hF.notYet 16 17 nL_16 (by kernel_rfl);have nL_18 := hF.notYet 17 18 nL_17 (by kernel_rfl);have nL := hF.notYet 18 20 nL_18 (by kernel_rfl);have hW' := hW;unfold CgW at hW';rw [if_neg (by simp [nL])] at hW';subst hW';exact ⟨by unfold CgW; rw [if_neg (by simp [upd, nL])], _, by go_simp, rfl⟩
    · refine sP_ fun sg ly a wr hl hd hW hF => ?_;have et10 := hF.old 10 (by kernel_rfl);simp [Act.eval] at et10;exact ⟨by simpa [CgW, upd] using hW, .int .i64 k, by go_simp, rfl⟩
    · refine sP_ fun sg ly a wr hl hd hW hF => ?_;simp [Region.binds] at hd;have et85 := hF.new 13 85 (by simp [hd]) rfl;simp [CgV, Act.eval] at et85;have et86 := hF.new 14 86 (by simp [hd]) rfl;simp [CgV, Act.eval] at et86;exact ⟨by simpa [CgW, upd] using hW, .pointer (some ⟨bc, oc + k * 3, none⟩), by go_simp, rfl⟩
    · refine sP_ fun sg ly a wr hl hd hW hF => ?_;simp [Region.binds] at hd;have et87 := hF.new 15 87 (by simp [hd]) rfl;simp [CgV, Act.eval] at et87;exact ⟨by simpa [CgW, upd] using hW, .pointer (some ⟨bc, oc + k * 3, none⟩), by go_simp, rfl⟩
    · refine sP_ fun sg ly a wr hl hd hW hF => ?_;simp [Region.binds] at hd;have et88 := hF.new 16 88 (by simp [hd]) rfl;simp [CgV, Act.eval] at et88;have nL_18 := hF.notYet 17 18 hl (by kernel_rfl);have nL := hF.notYet 18 20 nL_18 (by kernel_rfl);have hW' := hW;unfold CgW at hW';rw [if_neg (by simp [nL])] at hW';subst hW';exact ⟨by unfold CgW; rw [if_neg (by simp [upd, nL])], _, by go_simp, rfl⟩
    · refine sP_ fun sg ly a wr hl hd hW hF => ?_;simp [Region.binds] at hd;have et78 := hF.new 6 78 (by simp [hd]) rfl;simp [CgV, Act.eval] at et78;have et89 := hF.new 17 89 (by simp [hd]) rfl;simp [CgV, Act.eval] at et89;have ew := IntWalk.i64_in (x + gr) (by omega);exact ⟨by simpa [CgW, upd] using hW, .int .i64 (x + gr), by go_simp, rfl⟩
    · refine sP_ fun sg ly a wr hl hd hW hF => ?_;simp [Region.binds] at hd;have et75 := hF.new 3 75 (by simp [hd]) rfl;simp [CgV, Act.eval] at et75;have et76 := hF.new 4 76 (by simp [hd]) rfl;simp [CgV, Act.eval] at et76;exact ⟨by simpa [CgW, upd] using hW, .pointer (some ⟨c.gb, k, none⟩), by go_simp, rfl⟩
    · refine sS_ rfl fun sg ly a wr hl hd hW hF => ?_;simp [Region.binds] at hd;have et91 := hF.new 19 91 (by simp [hd]) rfl;simp [CgV, Act.eval] at et91;have et90 := hF.new 18 90 (by simp [hd]) rfl;simp [CgV, Act.eval] at et90;have hW' := hW;unfold CgW at hW';rw [if_neg (by simp [hl])] at hW';subst hW';refine ⟨(wr.setCell ⟨c.gb, k, none⟩ (.int .i64 (x + gr))).drew, (), .skip, by go_simp, .inl rfl, by unfold CgW; rw [if_pos (by simp [upd])], fun _ _ _ h => h⟩
  intro _ a w3 hWW hF;obtain ⟨f3, hf3, rfl⟩ := hF.lit;have hw3 : w3 = (wr.setCell ⟨c.gb, k, none⟩ (.int .i64 (x + gr))).drew := by
    have h5 := hWW;unfold CgW at h5
    rwa [if_pos (by simp)] at h5
  clear hf3 hF hWW;simp only [List.filterMap, List.foldl, List.setIfInBounds_toArray, List.set_cons_succ, List.set_cons_zero];have S3 := HS.out.1.setBr N (x + gr) hk;rw [← hw3] at S3;have H3 := Lib.hid S3;clear hw3 S3;go_wp2_with fail
  refine HI.out _ _ _ _ _ _ _ _ _ _ _ _ _ _ _ _ _ _ _ _ _ _ _ _ _ _ ?_;rw [grow1, ← HS.out.2.1, ← HS.out.2.2];exact H3.out
def CbV (W0 : World) (bw wb ub xb n c2 m : Nat) (ou : Bool) : Nat → Value → Prop
  | 0, v => v = .pointer (some ⟨wb, 0, none⟩)
  | 1, v => v = .pointer (some ⟨wb, 0, none⟩)
  | 2, v => v = .pointer (some ⟨wb, 3, none⟩)
  | 3, v => v = .slice (some ⟨ub, 0, none⟩) n c2
  | 4, v => v = .pointer (some ⟨xb, 1, none⟩)
  | 5, v => v = .int .i64 m
  | 6, v => v = .pointer (some ⟨xb, 2, none⟩)
  | 7, v => v = .bool ou
  | 8, v => v = .bool (!ou)
  | 9, v => v = .pointer (some ⟨ub, m, none⟩)
  | _, _ => True
def CbW (W0 : World) (bw wb ub xb n c2 m : Nat) (ou : Bool) (l : Nat → Bool) (w : World) : Prop := if l 10 then w = (W0.setCell ⟨ub, m, none⟩ (.bool (!ou))).drew else w = W0.drew
theorem grow_bd {p : Prt} (hg : ∀ x ∈ p.chs, 0 ≤ x.grow ∧ x.grow ≤ 100) : ∀ {l : List Int} {b : List Int} {B : Int}, brR B b → (∀ y ∈ l, 0 ≤ y ∧ y < p.chs.length) → brR (B + 100 * l.length) (growN p l b)
  | [], b, B, hb, _ => by simpa [growN] using hb
  | y :: l, b, B, hb, hl => by
    obtain ⟨y0, y1⟩ := hl y (by simp);have h1 := hg _ (ch_mem y0 y1);have h2 : brR (B + 100) (grow1 p b y) := brR_set (B := B + 100) (fun c => by have := hb c; omega) y0 (by have := hb y; omega);have := grow_bd (l := l) hg h2 (fun x hx => hl x (by simp [hx]));rw [List.length_cons];intro c;have := this c;simp only [growN, List.foldl_cons] at this ⊢;omega
theorem callsN_skip {p : Prt} {h : Int} {c : Cal} {l : List Cal} {i : Nat} {s : Stt} (h1 : c.hour ≠ h) : callsN p h (c :: l) i s = callsN p h l (i + 1) s := by rw [callsN, if_pos h1]
theorem callsN_busy {p : Prt} {h : Int} {c : Cal} {l : List Cal} {i : Nat} {s : Stt} (h1 : c.hour = h) (h2 : s.busy.getD c.berth.toNat false ≠ c.out) : callsN p h (c :: l) i s = (i, 9, s) := by rw [callsN, if_neg (by simp [h1]), if_pos h2]
theorem callsN_over {p : Prt} {h : Int} {c : Cal} {l : List Cal} {i : Nat} {s : Stt} (h1 : c.hour = h) (h2 : s.busy.getD c.berth.toNat false = c.out) (h3 : (bt p c.berth).path.any (fun n => decide (c.most < getI s.brash n)) = true) : callsN p h (c :: l) i s = (i, 8, s) := by rw [callsN, if_neg (by simp [h1]), if_neg (fun q => q h2), if_pos h3]
theorem callsN_pass {p : Prt} {h : Int} {c : Cal} {l : List Cal} {i : Nat} {s : Stt} (h1 : c.hour = h) (h2 : s.busy.getD c.berth.toNat false = c.out) (h3 : (bt p c.berth).path.any (fun n => decide (c.most < getI s.brash n)) = false) :
    callsN p h (c :: l) i s = callsN p h l (i + 1) ⟨growN p (bt p c.berth).path s.brash, s.busy.set c.berth.toNat (!c.out)⟩ := by rw [callsN, if_neg (by simp [h1]), if_neg (fun q => q h2), if_neg (by rw [h3]; simp)]
theorem calls_any {c : WC} {W : World} {s : Stt} {h : Int} (E : WcE c W (brV c) (buV c)) (N : WcN c) (S : WkS c W W s) (v : Val c.p c.l) (hbr : brR 1000000000 s.brash) :
    Calls Tryz.prog 78 #[.pointer (some ⟨c.wb, 0, none⟩), .int .i64 h] W fun e w' => ∃ (i : Nat) (er : Int) (s' : Stt), (i, er, s') = callsN c.p h c.l.calls 0 s ∧ e = .returned (.tuple #[.int .i64 i, .int .i64 er]) ∧ WkS c W w' s' ∧ brR 1001000000 s'.brash := by
  obtain ⟨L, hL⟩ : ∃ L, L = c.l.calls.length := ⟨_, rfl⟩;have hL60 : L ≤ 60 := by have := v.nx; omega
  have hnc := v.nc;have hnb := v.nb;obtain ⟨W0, hW0⟩ : ∃ W0, W0 = W.alloc (.cells #[.pointer (some ⟨c.wb, 0, none⟩)] 127) := ⟨_, rfl⟩;obtain ⟨bw, hbw⟩ : ∃ bw, bw = W.heap.size := ⟨_, rfl⟩;have b0 : Below W.heap.size W W0 := by rw [hW0]; exact (Below.refl _ _).alloc (Nat.le_refl _) _
  have hbh : W0.heap[bw]? = some (.cells #[.pointer (some ⟨c.wb, 0, none⟩)] 127 (0, 0)) := by rw [hW0, hbw]; exact heap_alloc_new _ _
  have E0 := E.below b0;have S0 := (S.below b0).start;have hbn : bw ≠ c.gb ∧ bw ≠ c.ub := ⟨by have := (S.br.one (A := none)).1; omega, by have := (S.bu.one (A := none)).1; omega⟩;have q0 : W0.cell? ⟨bw, 0, none⟩ = some (.pointer (some ⟨c.wb, 0, none⟩)) := (cOH hbh 0).trans rfl;have z0 := hL_ hbh;obtain ⟨q1, p1, _, _, _, _, _, p2, _, z1, z2, z3⟩ := E0.cells;rw [← hL] at p2;have R0 : ∃ R, R = callsN c.p h c.l.calls 0 s := ⟨_, rfl⟩;obtain ⟨R, hR⟩ := R0;have H := Lib.hid (And.intro E0 (And.intro N (And.intro S0 (And.intro v (And.intro hbr (And.intro hL (And.intro (show Keep [c.gb, c.ub] W W0 from Keep.of_below b0) hR)))))));have HB := Lib.hid (And.intro q0 hbn);clear E S E0 S0 b0 hbh hbr hL hR hbn
  go_enter Tryz.func78, Tryz.ntmps78
  go_upto_region 1 with fail
  rw [← hW0, ← hbw];clear hW0 hbw;go_wp2_with fail
  go_loopg [4, 5, 19] (L) (fun g r4 r5 i wr => ∃ (k : Nat) (s' : Stt), g + k = L ∧ i = .int .i64 k ∧ r4 = .int .i64 0 ∧ r5 = .int .i64 0 ∧ WkS c W0 wr s' ∧ R = callsN c.p h (c.l.calls.drop k) k s' ∧ brR (1000000000 + 600 * k) s'.brash)
  case atStart => exact ⟨0, s, rfl, rfl, rfl, rfl, H.out.2.2.1, H.out.2.2.2.2.2.2.2, by simpa using H.out.2.2.2.2.1⟩
  case round =>
    obtain ⟨k, s', hk, rfl, rfl, rfl, hS, hRk, hbk⟩ := hrel;by_cases hlt : k < L
    · have hkl : k < c.l.calls.length := by have := H.out.2.2.2.2.2.1; omega
      have hg : c.l.calls.drop k = c.l.calls[k] :: c.l.calls.drop (k + 1) := List.drop_eq_getElem_cons hkl;obtain ⟨x, hx⟩ : ∃ x, x = c.l.calls[k] := ⟨_, rfl⟩;have hxm : x ∈ c.l.calls := by rw [hx]; exact List.getElem_mem hkl
      rw [← hx] at hg;rw [hg] at hRk;have hca := H.out.2.2.2.1.ca x hxm;have Er := H.out.1.at H.out.2.1 hS;obtain ⟨b, off, eAl, hbD, hcell⟩ := Er.LB.calls.2 (by omega);obtain ⟨g0, g1, g2, g3, g4, g5⟩ := cacs_get hkl;rw [← hx] at g0 g1 g2 g3 g4 g5;have d0 := hcell _ _ g0;have d1 : wr.cell? ⟨b, off + k * 6 + 1, none⟩ = _ := hcell _ _ g1;have d2 : wr.cell? ⟨b, off + k * 6 + 2, none⟩ = _ := hcell _ _ g2;have d3 : wr.cell? ⟨b, off + k * 6 + 3, none⟩ = _ := hcell _ _ g3;have d4 : wr.cell? ⟨b, off + k * 6 + 4, none⟩ = _ := hcell _ _ g4;have d5 : wr.cell? ⟨b, off + k * 6 + 5, none⟩ = _ := hcell _ _ g5;have zb := World.block_lt_of_cell? _ _ d0;obtain ⟨ho, be, ou, dr, mo, tg⟩ := x;simp only at hca;obtain ⟨c0, c1, c2, c3, c4, c5⟩ := hca;obtain ⟨m, rfl⟩ := Int.eq_ofNat_of_zero_le c0;have hm : m < c.p.bts.length := by omega
      obtain ⟨W2, hW2⟩ : ∃ W2, W2 = wr.alloc (.cells #[.int .i64 ho, .int .i64 m, .bool ou, .int .i64 dr, .int .i64 mo, .int .i64 tg] 124) := ⟨_, rfl⟩;obtain ⟨xb, hxb⟩ : ∃ xb, xb = wr.heap.size := ⟨_, rfl⟩;have hxh : W2.heap[xb]? = some (.cells #[.int .i64 ho, .int .i64 m, .bool ou, .int .i64 dr, .int .i64 mo, .int .i64 tg] 124 (0, 0)) := by rw [hW2, hxb]; exact heap_alloc_new _ _
      have S2 : WkS c W0 W2 s' := by rw [hW2]; exact hS.alloc _
      have hxn : xb ≠ c.gb ∧ xb ≠ c.ub := ⟨by have := (hS.br.one (A := none)).1; omega, by have := (hS.bu.one (A := none)).1; omega⟩;have HS := Lib.hid (And.intro S2 (And.intro hRk (And.intro hbk (And.intro hxh hxm))));clear hS hRk hbk S2 hxh hxm hx hg hcell Er g0 g1 g2 g3 g4 g5 q0 z0 q1 p1 p2 z1 z2 z3 hbD c0 c1;rw [eAl];by_cases hh : ho = h
      · subst hh;have q0 := HS.out.1.kp.cell HB.out.1 (by simpa using HB.out.2);have z0 := World.block_lt_of_cell? _ _ q0;have E2 := H.out.1.at H.out.2.1 HS.out.1;obtain ⟨q1, _, q2, q3, _, q4, _, _, _, z1, z2, _⟩ := E2.cells;have x1 : W2.cell? ⟨xb, 1, none⟩ = some (.int .i64 m) := (cOH HS.out.2.2.2.1 1).trans rfl;have x2 : W2.cell? ⟨xb, 2, none⟩ = some (.bool ou) := (cOH HS.out.2.2.2.1 2).trans rfl;have x0 : W2.cell? ⟨xb, 0, none⟩ = some (.int .i64 ho) := (cOH HS.out.2.2.2.1 0).trans rfl;have zx := hL_ HS.out.2.2.2.1;obtain ⟨tw, htw⟩ : ∃ tw, tw = s'.busy.getD m false := ⟨_, rfl⟩;have u1 := HS.out.1.buAt hm;rw [← htw] at u1;have zu := (HS.out.1.bu.one (A := none)).1;have m1 : (0 : Int) ≤ (m : Int) := by omega
        have m2 : (m : Int) < (c.p.bts.length : Int) := by omega
        have HT := Lib.hid htw;clear htw E2;by_cases hb : tw = ou
        · subst hb;have hbusy : s'.busy.getD m false = tw := HT.out.symm;go_upto_region 5 with fail
          rw [← hW2, ← hxb];clear hW2 hxb d0 d1 d2 d3 d4 d5 zb;go_quiet (fail);obtain ⟨w3, hw3⟩ : ∃ w3, w3 = W2.drewN nq := ⟨_, rfl⟩;rw [← hw3];have S3 : WkS c W0 w3 s' := by rw [hw3]; exact ⟨HS.out.1.kp.drewN _, HS.out.1.br.drewN _, HS.out.1.bu.drewN _⟩
          have hx3 : w3.heap[xb]? = some (.cells #[.int .i64 ho, .int .i64 m, .bool tw, .int .i64 dr, .int .i64 mo, .int .i64 tg] 124 (0, 0)) := by rw [hw3]; exact HS.out.2.2.2.1
          have H3 := Lib.hid (And.intro S3 hx3);clear hw3 S3 hx3 q0 z0 q1 q2 q3 q4 z1 z2 x0 x1 x2 zx u1 zu;obtain ⟨pth, hpth⟩ : ∃ q, q = c.p.bts[m].path := ⟨_, rfl⟩;have hbtm : bt c.p (m : Int) = c.p.bts[m] := by simp [bt, hm]
          have hbv := H.out.2.2.2.1.btf _ (List.getElem_mem hm);rw [← hpth] at hbv;have hpl : pth.length ≤ 6 := by have := nodup_range_le hbv.2.1 hbv.2.2; omega
          have HQ := Lib.hid (And.intro hbusy (And.intro (show (bt c.p (m : Int)).path = pth by rw [hbtm, hpth]) hbv));have q0 := H3.out.1.kp.cell HB.out.1 (by simpa using HB.out.2);have z0 := World.block_lt_of_cell? _ _ q0;have E3 := H.out.1.at H.out.2.1 H3.out.1;obtain ⟨q1, _, q2, q3, _, q4, _, _, _, z1, z2, _⟩ := E3.cells;obtain ⟨bk, ob, Ak, ck, eAb, hbk, y1, y2, y3⟩ := H.out.1.PB.bts m hm;rw [← hpth] at y2 y3;have hDn : ∀ x, x < c.D → x ∉ [c.gb, c.ub] := fun x hx => by have := H.out.2.1.g; have := H.out.2.1.u; simp; omega
          replace y2 := H3.out.1.kp.cell y2 (hDn _ hbk)
          have zk := World.block_lt_of_cell? _ _ y2;have x1 : w3.cell? ⟨xb, 1, none⟩ = some (.int .i64 m) := (cOH H3.out.2 1).trans rfl;have zx := hL_ H3.out.2;rw [eAb] at q4;have HY := Lib.hid (And.intro eAb (And.intro hbk (And.intro y3 hDn)));clear hbusy hpth hbtm hbv E3 eAb hbk y1 y3 HT hDn;go_upto_region 7 with fail
          go_quiet (fail);obtain ⟨w4, hw4⟩ : ∃ w4, w4 = w3.drewN nq := ⟨_, rfl⟩;rw [← hw4];have S4 : WkS c W0 w4 s' := by rw [hw4]; exact ⟨H3.out.1.kp.drewN _, H3.out.1.br.drewN _, H3.out.1.bu.drewN _⟩
          have hx4 : w4.heap[xb]? = some (.cells #[.int .i64 ho, .int .i64 m, .bool tw, .int .i64 dr, .int .i64 mo, .int .i64 tg] 124 (0, 0)) := by rw [hw4]; exact H3.out.2
          have r4 : Rd w4 1 Ak pth.length (ints pth) := (HY.out.2.2.1.1.below (S4.kp.below H.out.1.hD (by have := H.out.2.1.g; have := H.out.2.1.u; simp; omega))).rd (by have := H.out.1.hD; have := S4.kp.size; omega);have q04 : w4.cell? ⟨bw, 0, none⟩ = some (.pointer (some ⟨c.wb, 0, none⟩)) := by rw [hw4]; exact q0
          have q14 : w4.cell? ⟨c.wb, 2, none⟩ = some (brV c) := by rw [hw4]; exact q2
          have kany := anyOver_any (fun n => decide (mo < getI s'.brash n)) (.pointer (some ⟨bw, 0, none⟩)) (.pointer (some ⟨xb, 0, none⟩)) Ak ck pth w4 r4 (by omega) (fun y hy n => by
            obtain ⟨j0, j1⟩ := HQ.out.2.2.2.2 y hy;obtain ⟨j, rfl⟩ := Int.eq_ofNat_of_zero_le j0;exact over_any q04 q14 (S4.brAt (by omega)) ((cOH hx4 4).trans rfl) (by omega) n)
          obtain ⟨a, ha⟩ : ∃ a, a = pth.any (fun n => decide (mo < getI s'.brash n)) := ⟨_, rfl⟩;rw [← ha] at kany;have H4 := Lib.hid (And.intro S4 (And.intro hx4 (And.intro kany ha)));clear hw4 S4 hx4 r4 q04 q14 kany ha q0 z0 q1 q2 q3 q4 z1 z2 y2 zk x1 zx H3;cases a
          · go_upto_region 10 with (go_at_call 73; refine H4.out.2.2.1.mono ?_; rintro e w5' ⟨rfl, mm, rfl⟩)
            obtain ⟨w5, hw5⟩ : ∃ w5, w5 = w4.drewN mm := ⟨_, rfl⟩;rw [← hw5];have S5 : WkS c W0 w5 s' := by rw [hw5]; exact ⟨H4.out.1.kp.drewN _, H4.out.1.br.drewN _, H4.out.1.bu.drewN _⟩
            have hx5 : w5.heap[xb]? = some (.cells #[.int .i64 ho, .int .i64 m, .bool tw, .int .i64 dr, .int .i64 mo, .int .i64 tg] 124 (0, 0)) := by rw [hw5]; exact H4.out.2.1
            have q0 := S5.kp.cell HB.out.1 (by simpa using HB.out.2);have z0 := World.block_lt_of_cell? _ _ q0;obtain ⟨q1, _, q2, q3, _, q4, _, _, _, z1, z2, _⟩ := (H.out.1.at H.out.2.1 S5).cells;have x1 : w5.cell? ⟨xb, 1, none⟩ = some (.int .i64 m) := (cOH hx5 1).trans rfl;have x2 : w5.cell? ⟨xb, 2, none⟩ = some (.bool tw) := (cOH hx5 2).trans rfl;have zx := hL_ hx5;have q6 := (S5.bu.one (A := none)).2.2 m;have zu := (S5.bu.one (A := none)).1;have q7 := S5.buAt hm;have H5 := Lib.hid S5;clear hw5 S5 hx5;refine wRS (σ := Unit) (by kernel_rfl) (by kernel_rfl) (fun _ jx vx _ => CbV w5 bw c.wb c.ub xb c.p.bts.length c.c2 m tw jx vx) (fun _ ly wx => CbW w5 bw c.wb c.ub xb c.p.bts.length c.c2 m tw ly wx) () ?_ ?_ ?_
            · exact (by unfold CbW; rw [if_neg (by simp)])
            · simp only [AllFrom, Nat.zero_add, Nat.reduceAdd];refine ⟨?_, ?_, ?_, ?_, ?_, ?_, ?_, ?_, ?_, ?_, ?_, trivial⟩
              · refine sP_ fun sg ly a wr hl hd hW hF => ?_;have et2 := hF.old 2 (by kernel_rfl);simp [Act.eval] at et2;have nL_1 := hF.notYet 0 1 hl (by kernel_rfl);have nL_2 := hF.notYet 1 2 nL_1 (by kernel_rfl);have nL_3 := hF.notYet 2 3 nL_2 (by kernel_rfl);have nL_9 := hF.notYet 3 9 nL_3 (by kernel_rfl);have nL := hF.notYet 9 10 nL_9 (by kernel_rfl);have hW' := hW;unfold CbW at hW';rw [if_neg (by simp [nL])] at hW';subst hW';exact ⟨by unfold CbW; rw [if_neg (by simp [upd, nL])], _, by go_simp, rfl⟩
              · refine sP_ fun sg ly a wr hl hd hW hF => ?_;simp [Region.binds] at hd;have et56 := hF.new 0 56 (by simp [hd]) rfl;simp [CbV, Act.eval] at et56;exact ⟨by simpa [CbW, upd] using hW, .pointer (some ⟨c.wb, 0, none⟩), by go_simp, rfl⟩
              · refine sP_ fun sg ly a wr hl hd hW hF => ?_;simp [Region.binds] at hd;have et57 := hF.new 1 57 (by simp [hd]) rfl;simp [CbV, Act.eval] at et57;exact ⟨by simpa [CbW, upd] using hW, .pointer (some ⟨c.wb, 3, none⟩), by go_simp, rfl⟩
              · refine sP_ fun sg ly a wr hl hd hW hF => ?_;simp [Region.binds] at hd;have et58 := hF.new 2 58 (by simp [hd]) rfl;simp [CbV, Act.eval] at et58;have nL_9 := hF.notYet 3 9 hl (by kernel_rfl);have nL := hF.notYet 9 10 nL_9 (by kernel_rfl);have hW' := hW;unfold CbW at hW';rw [if_neg (by simp [nL])] at hW';subst hW';exact ⟨by unfold CbW; rw [if_neg (by simp [upd, nL])], _, by go_simp, rfl⟩
              · refine sP_ fun sg ly a wr hl hd hW hF => ?_;have et7 := hF.old 7 (by kernel_rfl);simp [Act.eval] at et7;exact ⟨by simpa [CbW, upd] using hW, .pointer (some ⟨xb, 1, none⟩), by go_simp, rfl⟩
              · refine sP_ fun sg ly a wr hl hd hW hF => ?_;simp [Region.binds] at hd;have et60 := hF.new 4 60 (by simp [hd]) rfl;simp [CbV, Act.eval] at et60;have nL_9 := hF.notYet 5 9 hl (by kernel_rfl);have nL := hF.notYet 9 10 nL_9 (by kernel_rfl);have hW' := hW;unfold CbW at hW';rw [if_neg (by simp [nL])] at hW';subst hW';exact ⟨by unfold CbW; rw [if_neg (by simp [upd, nL])], _, by go_simp, rfl⟩
              · refine sP_ fun sg ly a wr hl hd hW hF => ?_;have et7 := hF.old 7 (by kernel_rfl);simp [Act.eval] at et7;exact ⟨by simpa [CbW, upd] using hW, .pointer (some ⟨xb, 2, none⟩), by go_simp, rfl⟩
              · refine sP_ fun sg ly a wr hl hd hW hF => ?_;simp [Region.binds] at hd;have et62 := hF.new 6 62 (by simp [hd]) rfl;simp [CbV, Act.eval] at et62;have nL_8 := hF.notYet 7 8 hl (by kernel_rfl);have nL := hF.notYet 8 10 nL_8 (by kernel_rfl);have hW' := hW;unfold CbW at hW';rw [if_neg (by simp [nL])] at hW';subst hW';exact ⟨by unfold CbW; rw [if_neg (by simp [upd, nL])], _, by go_simp, rfl⟩
              · refine sP_ fun sg ly a wr hl hd hW hF => ?_;simp [Region.binds] at hd;have et63 := hF.new 7 63 (by simp [hd]) rfl;simp [CbV, Act.eval] at et63;exact ⟨by simpa [CbW, upd] using hW, .bool (!tw), by go_simp, rfl⟩
              · refine sP_ fun sg ly a wr hl hd hW hF => ?_;simp [Region.binds] at hd;have et59 := hF.new 3 59 (by simp [hd]) rfl;simp [CbV, Act.eval] at et59;have et61 := hF.new 5 61 (by simp [hd]) rfl;simp [CbV, Act.eval] at et61;exact ⟨by simpa [CbW, upd] using hW, .pointer (some ⟨c.ub, m, none⟩), by go_simp, rfl⟩
              · refine sS_ rfl fun sg ly a wr hl hd hW hF => ?_;simp [Region.binds] at hd;have et65 := hF.new 9 65 (by simp [hd]) rfl;simp [CbV, Act.eval] at et65;have et64 := hF.new 8 64 (by simp [hd]) rfl;simp [CbV, Act.eval] at et64;have hW' := hW;unfold CbW at hW';rw [if_neg (by simp [hl])] at hW';subst hW';refine ⟨(w5.setCell ⟨c.ub, m, none⟩ (.bool (!tw))).drew, (), .skip, by go_simp, .inl rfl, by unfold CbW; rw [if_pos (by simp [upd])], fun _ _ _ h => h⟩
            intro _ a w3 hWW hF;obtain ⟨f3, hf3, rfl⟩ := hF.lit;have hw3 : w3 = (w5.setCell ⟨c.ub, m, none⟩ (.bool (!tw))).drew := by
              have h5 := hWW;unfold CbW at h5
              rwa [if_pos (by simp)] at h5
            clear hf3 hF hWW;simp only [List.filterMap, List.foldl, List.setIfInBounds_toArray, List.set_cons_succ, List.set_cons_zero];have S6 := H5.out.setBu H.out.2.1 (!tw) hm;rw [← hw3] at S6;have hb6 : w3.cell? ⟨bw, 0, none⟩ = some (.pointer (some ⟨c.wb, 0, none⟩)) := S6.kp.cell HB.out.1 (by simpa using HB.out.2);have H6 := Lib.hid (And.intro S6 hb6);clear hw3 S6 hb6 q0 z0 q1 q2 q3 q4 z1 z2 x1 x2 zx q6 zu q7;obtain ⟨g1, rfl⟩ : ∃ g1, g1 = gk := ⟨_, rfl⟩;go_wp2_with fail
            go_loopw [68] (fun q wq => ∃ j : Nat, j ≤ pth.length ∧ q = .int .i64 j ∧ WkS c w3 wq ⟨growN c.p (pth.take j) s'.brash, s'.busy.set m (!tw)⟩) (fun q _ => pth.length - (intOf q).toNat)
            case atStart => exact ⟨0, Nat.zero_le _, rfl, H6.out.1.start⟩
            case round =>
              obtain ⟨j, hj, rfl, hS⟩ := hrel;by_cases hjl : j < pth.length
              · obtain ⟨pk, pq, eAk, hpk, hpc⟩ := HY.out.2.2.1.1.2 (by omega);have hy0 : pth.getD j 0 ∈ pth := by rw [List.getD_eq_getElem?_getD, List.getElem?_eq_getElem hjl]; exact List.getElem_mem hjl
                obtain ⟨j0, j1⟩ := HQ.out.2.2.2.2 _ hy0;have hcj := hpc j _ (iG_ hjl);obtain ⟨y, hye⟩ := Int.eq_ofNat_of_zero_le j0;rw [hye] at hcj j1;have E6 := H.out.1.at H.out.2.1 H6.out.1;have hcj6 : w3.cell? ⟨pk, pq + j, none⟩ = some (.int .i64 y) := H6.out.1.kp.cell hcj (HY.out.2.2.2 _ hpk);have hbd := grow_bd (p := c.p) (fun x hx => by have := H.out.2.2.2.1.chf x hx; omega) (l := pth.take j) HS.out.2.2.1 (fun z hz => HQ.out.2.2.2.2 z (List.mem_of_mem_take hz));subst eAk;refine caIn (k := y) E6 H.out.2.1 hS H6.out.2 HB.out.2 hjl (by omega) hcj6 hpk (by omega) (fun x hx => by have := H.out.2.2.2.1.chf x hx; omega) (by omega) (fun z => by have := hbd z; rw [List.length_take] at this; simp only; omega) ?_;intro _ _ _ _ _ _ _ _ _ _ _ _ _ _ _ _ _ _ _ _ _ _ _ _ _ w' hr;refine ⟨?_, by simp [intOf]; omega⟩
                repeat apply Exists.intro
                refine ⟨?_, rfl⟩;refine ⟨j + 1, by omega, by go_num, ?_⟩;have e0 : (pth.take (j + 1)) = pth.take j ++ [(y : Int)] := by rw [List.take_succ_eq_append_getElem hjl, ← hye, List.getD_eq_getElem?_getD, List.getElem?_eq_getElem hjl]; rfl
                rw [e0, growN, List.foldl_append];exact hr
              · obtain rfl : j = pth.length := by omega
                have hf := H6.out.1.after hS;rw [List.take_length] at hf;have hnx := HS.out.2.1.trans (callsN_pass rfl (by simp only [Int.toNat_natCast]; exact HQ.out.1) (by rw [HQ.out.2.1]; exact H4.out.2.2.2.symm));rw [HQ.out.2.1] at hnx;simp only [Int.toNat_natCast] at hnx;have hbd := grow_bd (p := c.p) (fun x hx => by have := H.out.2.2.2.1.chf x hx; omega) HS.out.2.2.1 HQ.out.2.2.2.2;have HF := Lib.hid (And.intro hf (And.intro hnx hbd));clear hf hnx hbd hS;go_wp2_with fail
                rw [← eAl];go_roundg (g1 - 1);case measure => omega
                case rel => exact ⟨k + 1, _, by omega, by go_num, rfl, rfl, HF.out.1, HF.out.2.1, fun z => by have := HF.out.2.2 z; simp only; omega⟩
          · go_wp2_with (go_at_call 73; refine H4.out.2.2.1.mono ?_; rintro e w5' ⟨rfl, mm, rfl⟩)
            go_ret2
            have hnx := HS.out.2.1.trans (callsN_over rfl (by simp only [Int.toNat_natCast]; exact HQ.out.1) (by rw [HQ.out.2.1]; exact H4.out.2.2.2.symm));exact ⟨k, 8, s', by rw [← H.out.2.2.2.2.2.2.2]; exact hnx.symm, rfl, ⟨H.out.2.2.2.2.2.2.1.trans (H4.out.1.kp.drewN _) (by simp), H4.out.1.br.drewN _, H4.out.1.bu.drewN _⟩, fun z => by have := HS.out.2.2.1 z; omega⟩
        · have hbt : (tw == ou) = false := by simpa using hb
          have hnx := HS.out.2.1.trans (callsN_busy rfl (by simp only [Int.toNat_natCast]; rw [← HT.out]; exact hb));have HN := Lib.hid hnx;clear hnx hb;go_upto_region 5 with fail
          rw [← hW2, ← hxb];clear hW2 hxb d0 d1 d2 d3 d4 d5 zb;go_quiet (fail);obtain ⟨w3, hw3⟩ : ∃ w3, w3 = W2.drewN nq := ⟨_, rfl⟩;rw [← hw3];have S3 : WkS c W0 w3 s' := by rw [hw3]; exact ⟨HS.out.1.kp.drewN _, HS.out.1.br.drewN _, HS.out.1.bu.drewN _⟩
          have hx3 : w3.heap[xb]? = some (.cells #[.int .i64 ho, .int .i64 m, .bool ou, .int .i64 dr, .int .i64 mo, .int .i64 tg] 124 (0, 0)) := by rw [hw3]; exact HS.out.2.2.2.1
          have H3 := Lib.hid (And.intro S3 hx3);clear hw3 S3 hx3 q0 z0 q1 q2 q3 q4 z1 z2 x0 x1 x2 zx u1 zu;go_wp2_with fail
          go_ret2
          exact ⟨k, 9, s', by rw [← H.out.2.2.2.2.2.2.2]; exact HN.out.symm, rfl, ⟨H.out.2.2.2.2.2.2.1.trans H3.out.1.kp (by simp), H3.out.1.br, H3.out.1.bu⟩, fun z => by have := HS.out.2.2.1 z; omega⟩
      · have hf : (ho != h) = true := by simpa using hh
        have HN := Lib.hid (HS.out.2.1.trans (callsN_skip hh));clear hh;have x0 : W2.cell? ⟨xb, 0, none⟩ = some (.int .i64 ho) := (cOH HS.out.2.2.2.1 0).trans rfl;have zx := hL_ HS.out.2.2.2.1;go_upto_region 4 with fail
        rw [← hW2, ← hxb];clear hW2 hxb d0 d1 d2 d3 d4 d5 zb;go_wp2_with fail
        rw [← eAl];go_roundg (gk - 1);case measure => omega
        case rel => exact ⟨k + 1, s', by omega, by go_num, rfl, rfl, HS.out.1, HN.out, fun j => by have := HS.out.2.2.1 j; omega⟩
    · obtain rfl : k = L := by omega
      have q0 := hS.kp.cell HB.out.1 (by simpa using HB.out.2);have z0 := World.block_lt_of_cell? _ _ q0;obtain ⟨q1, p1, _, _, _, _, _, p2, _, z1, z2, z3⟩ := (H.out.1.at H.out.2.1 hS).cells;have hnx : R = (k, 0, s') := by rw [hRk, H.out.2.2.2.2.2.1, List.drop_length]; rfl
      have hlc := H.out.2.2.2.2.2.1;rw [← hlc] at p2;have HF := Lib.hid (And.intro hS (And.intro hnx hbk));clear hS hRk hnx hbk hlc;go_wp2_with fail
      go_ret2
      exact ⟨k, 0, s', by rw [← H.out.2.2.2.2.2.2.2]; exact HF.out.2.1.symm, rfl, ⟨H.out.2.2.2.2.2.2.1.trans HF.out.1.kp (by simp), HF.out.1.br, HF.out.1.bu⟩, fun z => by have := HF.out.2.2 z; omega⟩
theorem callsN_bd {p : Prt} {h : Int} (hg : ∀ x ∈ p.chs, 0 ≤ x.grow ∧ x.grow ≤ 100) : ∀ {l : List Cal} {i : Nat} {s : Stt} {B : Int}, 0 ≤ B → (∀ c ∈ l, (bt p c.berth).path.length ≤ 6 ∧ ∀ y ∈ (bt p c.berth).path, 0 ≤ y ∧ y < p.chs.length) → brR B s.brash → brR (B + 600 * l.length) (callsN p h l i s).2.2.brash
  | [], i, s, B, _, _, hb => by simpa [callsN] using hb
  | c :: l, i, s, B, hB, hl, hb => by
    have hc := hl c (by simp);have h0 : ∀ {b : List Int}, brR B b → brR (B + 600 * (c :: l).length) b := fun hb j => by have := hb j; rw [List.length_cons]; omega
    rw [callsN];split
    · have := callsN_bd hg hB (fun x hx => hl x (by simp [hx])) hb (l := l) (i := i + 1) (h := h);intro j; have := this j; rw [List.length_cons]; omega
    · split
      · exact h0 hb
      · split
        · exact h0 hb
        · have h1 := grow_bd hg hb hc.2;have h2 : brR (B + 600) (growN p (bt p c.berth).path s.brash) := fun j => by have := h1 j; omega
          have := callsN_bd hg (by omega) (fun x hx => hl x (by simp [hx])) (s := ⟨growN p (bt p c.berth).path s.brash, s.busy.set c.berth.toNat (!c.out)⟩) h2 (l := l) (i := i + 1) (h := h);intro j; have := this j; rw [List.length_cons]; omega
theorem hourR_bd {p : Prt} {l : Pln} (v : Val p l) {k : Nat} {s : Stt} {B : Int} (hB : 0 ≤ B) (hb : brR B s.brash) : brR (B + 36000) (hourR p l k s).2.2.brash := by
  have h1 := swpN_bd (B := B) (p := p) (h := k) (l := l.swps) (fun x hx => by have := v.sw x hx; omega) (fun x hx => by have := v.chf x hx; omega) hb;have h2 := callsN_bd (h := k) (fun x hx => by have := v.chf x hx; omega) (l := l.calls) (i := 0) (s := ⟨swpN p k l.swps s.brash, s.busy⟩) hB (fun c hc => by
    have hca := v.ca c hc;have hbv := v.btf _ (bt_mem hca.1 hca.2.1);have := nodup_range_le hbv.2.1 hbv.2.2;have := v.nc;exact ⟨by omega, hbv.2.2⟩) h1
  intro j;have := h2 j;have := v.nx;simp only [hourR];omega
theorem hourS_bd {p : Prt} {l : Pln} (v : Val p l) {k : Nat} {s : Stt} {B : Int} (hB : 0 ≤ B) (hb : brR B s.brash) : brR (B + 40000) (hourS p l k s).brash := by
  have h1 := hourR_bd v (k := k) hB hb;have h2 := frostN_bd (p := p) (fun x hx => by have := v.chf x hx; omega) h1 (Nat.le_refl _);intro j;have := h2 j;have := v.nc;simp only [hourS, frostL];omega
theorem stN_bd {p : Prt} {l : Pln} (v : Val p l) {s : Stt} {B : Int} (hB : 0 ≤ B) (hb : brR B s.brash) : ∀ k : Nat, brR (B + 40000 * k) (stN p l s k).brash
  | 0 => by simpa [stN] using hb
  | k + 1 => by
    have := hourS_bd v (k := k) (by omega) (stN_bd v hB hb k);intro j;have := this j;simp only [stN];omega
def RunPost (c : WC) (W : World) (s : Stt) (T : List Nat) (J1 : Nat → World → Prop) (e : Ending) (w' : World) : Prop :=
  e = .returned (.tuple #[.int .i64 (runR c.p c.l s).1, .int .i64 (runR c.p c.l s).2]) ∧ Keep (c.gb :: c.ub :: T) W w' ∧ ((runR c.p c.l s).2 = 0 → WkS c w' w' (stN c.p c.l s c.l.hours.toNat) ∧ J1 c.l.hours.toNat w')
theorem run_any {c : WC} {W : World} {s : Stt} (E : WcE c W (brV c) (buV c)) (N : WcN c) (S : WkS c W W s) (v : Val c.p c.l) (hbr : brR 1000000 s.brash) (nb ns : Nat) (kb ks : Array Value) (cb : ∀ a w, (callFunc nb a).run Tryz.prog w = .ok (.enter nb a) w) (cs : ∀ a w, (callFunc ns a).run Tryz.prog w = .ok (.enter ns a) w) (T : List Nat) (hT : ∀ x ∈ T, x ≠ c.wb ∧ x ≠ c.pb ∧ x ≠ c.lb ∧ c.D ≤ x ∧ x ≠ c.gb ∧ x ≠ c.ub)
    (J0 J1 J2 : Nat → World → Prop) (j0 : J0 0 W)
    (hb : ∀ (k : Nat) (w : World), k ≤ c.l.hours.toNat → WcE c w (brV c) (buV c) → WkS c w w (stN c.p c.l s k) → J0 k w → Keep (c.gb :: c.ub :: T) W w → Calls Tryz.prog nb (#[.int .i64 k] ++ kb) w fun e w' => e = .returned (.tuple #[]) ∧ (∃ T', Keep T' w w' ∧ ∀ x ∈ T', x ∈ T ∨ W.heap.size ≤ x) ∧ J1 k w')
    (hs : ∀ (k : Nat) (w : World), k < c.l.hours.toNat → WcE c w (brV c) (buV c) → WkS c w w ⟨swpN c.p k c.l.swps (stN c.p c.l s k).brash, (stN c.p c.l s k).busy⟩ → J1 k w → Keep (c.gb :: c.ub :: T) W w → Calls Tryz.prog ns (#[.int .i64 k] ++ ks) w fun e w' => e = .returned (.tuple #[]) ∧ (∃ T', Keep T' w w' ∧ ∀ x ∈ T', x ∈ T ∨ W.heap.size ≤ x) ∧ J2 k w')
    (j1 : ∀ k w w', Keep [c.gb, c.ub] w w' → J1 k w → J1 k w') (j2 : ∀ k w w', Keep [c.gb, c.ub] w w' → J2 k w → J0 (k + 1) w') :
    Calls Tryz.prog 54 #[.pointer (some ⟨c.wb, 0, none⟩), .func (.func nb) #[] kb, .func (.func ns) #[] ks] W (RunPost c W s T J1) := by
  obtain ⟨H, hH⟩ : ∃ H, H = c.l.hours.toNat := ⟨_, rfl⟩;have hHr : 1 ≤ H ∧ H ≤ 100 := by have := v.h; omega
  have hHi : c.l.hours = (H : Int) := by have := v.h; omega
  obtain ⟨q0, q1, _, _, _, _, q2, _, _, z1, _, z2⟩ := E.cells;rw [hHi] at q2;rw [← hH] at hb hs;have HH := Lib.hid (And.intro hH hHi);have HB := Lib.hid (And.intro hb (And.intro hs (And.intro j1 j2)));have HE := Lib.hid (And.intro E (And.intro N (And.intro S (And.intro v (And.intro hbr hT)))));have HJ := Lib.hid j0;clear hb hs j1 j2 E N S hbr hT hH hHi j0 v
  go_enter Tryz.func54, Tryz.ntmps54
  go_wp2_with fail
  have R0 : ∃ R, R = runF c.p c.l s 0 H := ⟨_, rfl⟩;obtain ⟨R, hR⟩ := R0;have HRR := Lib.hid hR;have hbk : ∀ k : Nat, k ≤ H → brR 10000000 (stN c.p c.l s k).brash := fun k hk j => by
    have := stN_bd HE.out.2.2.2.1 (by decide) HE.out.2.2.2.2.1 k j;omega
  have HK := Lib.hid hbk;have keepT : ∀ (w w' : World) (s' : Stt) (T' : List Nat), Keep T' w w' → (∀ x ∈ T', x ∈ T ∨ W.heap.size ≤ x) → WcE c w (brV c) (buV c) → WkS c w w s' → WcE c w' (brV c) (buV c) ∧ WkS c w' w' s' := fun w w' s' T' hk hT' hE hS => by
    have hz := HE.out.1.cells;have hg := HE.out.2.2.1.br.lt c.gb (by simp);have hu := HE.out.2.2.1.bu.lt c.ub (by simp);have hN := HE.out.2.1.g;have hT : ∀ x ∈ T', x ≠ c.wb ∧ x ≠ c.pb ∧ x ≠ c.lb ∧ c.D ≤ x ∧ x ≠ c.gb ∧ x ≠ c.ub := fun x hx => by
      rcases hT' x hx with e | e
      · exact HE.out.2.2.2.2.2 x e
      · have h1 := hz.2.2.2.2.2.2.2.2.2;omega
    refine ⟨hE.keep hk (fun x hx => by have := hT x hx; omega), Keep.refl _ _, hS.br.keepS hk (fun g hg hm => ?_), hS.bu.keepS hk (fun g hg hm => ?_)⟩
    · rw [List.mem_singleton.1 hg] at hm; have := hT _ hm; omega
    · rw [List.mem_singleton.1 hg] at hm; have := hT _ hm; omega
  have HT := Lib.hid keepT;clear hR hbk keepT
  go_loopg [6, 7, 18] (H) (fun g r6 r7 i wr => ∃ k : Nat, g + k = H ∧ i = .int .i64 k ∧ r6 = .int .i64 0 ∧ r7 = .int .i64 0 ∧ WcE c wr (brV c) (buV c) ∧ WkS c wr wr (stN c.p c.l s k) ∧ J0 k wr ∧ Keep (c.gb :: c.ub :: T) W wr ∧ R = runF c.p c.l s k (H - k))
  case atStart => exact ⟨0, rfl, rfl, rfl, rfl, HE.out.1, HE.out.2.2.1, HJ.out, Keep.refl _ _, HRR.out⟩
  case round =>
    obtain ⟨k, hk, rfl, rfl, rfl, hE, hS, hJ, hK, hF⟩ := hrel;by_cases hlt : k < H
    · have hFk : runF c.p c.l s k (H - k) = if (hourR c.p c.l k (stN c.p c.l s k)).2.1 ≠ 0 then ((hourR c.p c.l k (stN c.p c.l s k)).1, (hourR c.p c.l k (stN c.p c.l s k)).2.1) else runF c.p c.l s (k + 1) (H - (k + 1)) := by
        rw [show H - k = (H - (k + 1)) + 1 from by omega, runF]
      have k1 := HB.out.1 k wr (by omega) hE hS hJ hK;have H1 := Lib.hid (And.intro hE (And.intro hS (And.intro hK (And.intro (hF.trans hFk) k1))));clear hE hS hJ hK hF hFk k1 q0 q1 q2 z1 z2;go_wp2_with fail
      refine H1.out.2.2.2.2.mono ?_;rintro e w1 ⟨rfl, ⟨T1, kp1, hT1⟩, hj1⟩;obtain ⟨E1, S1⟩ := HT.out _ _ _ _ kp1 hT1 H1.out.1 H1.out.2.1;have K1 : Keep (c.gb :: c.ub :: T) W w1 := H1.out.2.2.1.trans kp1 (fun x hx => by rcases hT1 x hx with e | e; exact .inl (by simp [e]); exact .inr e);have H2 := Lib.hid (And.intro E1 (And.intro S1 (And.intro hj1 K1)));clear kp1 hT1 hj1 E1 S1 K1;go_wp2_with fail
      refine (sweep_any H2.out.1 HE.out.2.1 H2.out.2.1 HE.out.2.2.2.1 (fun j => by have := HK.out k (by omega) j; omega)).mono ?_;rintro e w2 ⟨rfl, S2⟩;have E2 := H2.out.1.at HE.out.2.1 S2;have K2 : Keep (c.gb :: c.ub :: T) W w2 := H2.out.2.2.2.trans S2.kp (by simp);have hj2 := HB.out.2.2.1 k w1 w2 S2.kp H2.out.2.2.1;have k3 := HB.out.2.1 k w2 hlt E2 S2.start hj2 K2;have H3 := Lib.hid (And.intro E2 (And.intro S2.start (And.intro K2 k3)));clear E2 S2 K2 hj2 k3;go_wp2_with fail
      refine H3.out.2.2.2.mono ?_;rintro e w3 ⟨rfl, ⟨T3, kp3, hT3⟩, hj3⟩;obtain ⟨E3, S3⟩ := HT.out _ _ _ _ kp3 hT3 H3.out.1 H3.out.2.1;have K3 : Keep (c.gb :: c.ub :: T) W w3 := H3.out.2.2.1.trans kp3 (fun x hx => by rcases hT3 x hx with e | e; exact .inl (by simp [e]); exact .inr e);have bd3 := swpN_bd (B := 10000000) (p := c.p) (h := k) (l := c.l.swps) (fun x hx => by have := HE.out.2.2.2.1.sw x hx; omega) (fun x hx => by have := HE.out.2.2.2.1.chf x hx; omega) (HK.out k (by omega));have H4 := Lib.hid (And.intro E3 (And.intro S3 (And.intro hj3 (And.intro K3 bd3))));clear kp3 hT3 hj3 E3 S3 K3 bd3;go_wp2_with fail
      refine (calls_any H4.out.1 HE.out.2.1 H4.out.2.1 HE.out.2.2.2.1 (fun j => by have := H4.out.2.2.2.2 j; simp only; omega)).mono ?_;rintro e w4 ⟨i, er, s', hR, rfl, S4, bd4⟩;have hR' : hourR c.p c.l k (stN c.p c.l s k) = (i, er, s') := hR.symm;have hF := H1.out.2.2.2.1;rw [hR'] at hF;have E4 := H4.out.1.at HE.out.2.1 S4;have K4 : Keep (c.gb :: c.ub :: T) W w4 := H4.out.2.2.2.1.trans S4.kp (by simp);have H5 := Lib.hid (And.intro E4 (And.intro S4 (And.intro K4 (And.intro hF (And.intro hR' bd4)))));clear E4 S4 K4 hF hR hR' bd4;by_cases her : er = 0
      · subst her;go_wp2_with fail
        refine (frost_any H5.out.1 HE.out.2.1 H5.out.2.1.start HE.out.2.2.2.1 (fun j => by have := H5.out.2.2.2.2.2 j; omega)).mono ?_;rintro e w5 ⟨rfl, S5⟩;have E5 := H5.out.1.at HE.out.2.1 S5;have K5 : Keep (c.gb :: c.ub :: T) W w5 := H5.out.2.2.1.trans S5.kp (by simp);have hst : stN c.p c.l s (k + 1) = ⟨frostL c.p s'.brash, s'.busy⟩ := by
          show hourS c.p c.l k (stN c.p c.l s k) = _;unfold hourS;rw [H5.out.2.2.2.2.1]
        have hj := HB.out.2.2.2 k w3 w5 (H5.out.2.1.kp.trans S5.kp (by simp)) H4.out.2.2.1;have hF := H5.out.2.2.2.1;rw [if_neg (by simp)] at hF;have S6 := S5.start;rw [← hst] at S6;have H6 := Lib.hid (And.intro E5 (And.intro S6 (And.intro hj (And.intro K5 hF))));clear E5 S5 S6 K5 hst hj hF;go_wp2_with fail
        go_roundg (gk - 1);case measure => omega
        case rel => exact ⟨k + 1, by omega, by go_num, rfl, rfl, H6.out.1, H6.out.2.1, H6.out.2.2.1, H6.out.2.2.2.1, H6.out.2.2.2.2⟩
      · have hne : (er != 0) = true := by simp [her]
        have hF := H5.out.2.2.2.1;rw [if_pos (by simpa using her)] at hF;have hrr : runR c.p c.l s = (i, er) := by rw [runR, ← HH.out.1, ← HRR.out, hF]
        have HF := Lib.hid (And.intro hrr her);clear hF hrr her;go_wp2_with fail
        go_ret2
        exact ⟨by rw [HF.out.1]; rfl, H5.out.2.2.1, fun h => absurd h (by rw [HF.out.1]; exact HF.out.2)⟩
    · obtain rfl : k = H := by omega
      have hrr : runR c.p c.l s = (c.l.calls.length, 0) := by rw [runR, ← HH.out.1, ← HRR.out, hF, Nat.sub_self]; rfl
      have k1 := HB.out.1 k wr (Nat.le_refl _) hE hS hJ hK;obtain ⟨q0, q1, _, _, _, _, q2, _, _, z1, _, z2⟩ := hE.cells;rw [HH.out.2] at q2;have H1 := Lib.hid (And.intro hE (And.intro hS (And.intro hK (And.intro hrr k1))));clear hE hS hJ hK hF hrr k1;go_wp2_with fail
      refine H1.out.2.2.2.2.mono ?_;rintro e w1 ⟨rfl, ⟨T1, kp1, hT1⟩, hj1⟩;obtain ⟨E1, S1⟩ := HT.out _ _ _ _ kp1 hT1 H1.out.1 H1.out.2.1;have K1 : Keep (c.gb :: c.ub :: T) W w1 := H1.out.2.2.1.trans kp1 (fun x hx => by rcases hT1 x hx with e | e; exact .inl (by simp [e]); exact .inr e);clear q0 q1 q2 z1 z2;obtain ⟨q0, q1, _, _, _, _, _, q2, _, z1, _, z2⟩ := E1.cells;have H2 := Lib.hid (And.intro E1 (And.intro S1 (And.intro hj1 K1)));clear kp1 hT1 hj1 E1 S1 K1;go_wp2_with fail
      go_ret2
      exact ⟨by rw [H1.out.2.2.2.1]; rfl, H2.out.2.2.2, fun _ => by rw [← HH.out.1]; exact ⟨H2.out.2.1, H2.out.2.2.1⟩⟩
end Go.Proofs.YtalcinepeofmcaaGreat
