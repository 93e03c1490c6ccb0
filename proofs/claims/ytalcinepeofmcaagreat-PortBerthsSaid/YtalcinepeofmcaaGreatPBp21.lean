import Derived.Test.YtalcinepeofmcaaGreatPBp20
import Derived.Test.YtalcinepeofmcaaGreatPBp19
set_option linter.unusedVariables false
set_option linter.unusedSimpArgs false
set_option maxRecDepth 100000
set_option maxHeartbeats 40000000
namespace Go.Proofs.YtalcinepeofmcaaGreat
open Go Go.RowKit Sp Pt
theorem infoRPl : (Tryz.prog.info? 56).map (fun i => (i.zero, i.size, i.bytes)) = some (some (.agg #[.int .i64 0, .int .i64 0]), 2, 16) := by kernel_rfl
theorem run_make_rplcs (n : Nat) (hn : n ≤ 1000) (w : World) :
    (Instr.makeSlice 55 (.int .i64 (n : Int)) (.int .i64 (n : Int))).run Tryz.prog w = .ok (.slice (some ⟨w.heap.size, 0, none⟩) n n) (w.alloc (.cells (plc0 n) 56)) := by
  obtain ⟨i0, hi, hz0, hz1, hz2⟩ := info_parts infoRPl;have := run_makeSlice (P := Tryz.prog) w 55 56 i0 _ Tryz.underlying55 hi hz0 .i64 .i64 (n : Int) (n : Int) (by omega) (by omega) (by rw [hz1]; simp; omega) (by rw [hz2]; omega) (by omega);rw [hz1] at this;simp only [Int.toNat_natCast] at this;rw [this]
  congr 3
  show madeCells #[.int .i64 0, .int .i64 0] (n * 2) = (plcs (List.replicate n ⟨0, 0⟩)).toArray;rw [made_pair, plcs_zero]
theorem own_plcs (w : World) (n : Nat) (hn : n ≤ 1000) : OwnS (w.alloc (.cells (plc0 n) 56)) 56 2 (some ⟨w.heap.size, 0, none⟩) n n (plcs (List.replicate n ⟨0, 0⟩)) [w.heap.size] := by
  have hl : (plcs (List.replicate n ⟨0, 0⟩)).length = n * 2 := by rw [plcs_zero, List.length_replicate]
  exact ⟨hl, .inr ⟨w.heap.size, plc0 n, rfl, rfl, heap_alloc_new w _, Nat.le_refl _, by omega, by rw [List.size_toArray, hl], fun j u hu => by rw [List.getElem?_toArray]; exact hu⟩⟩
theorem own_ints0 (w : World) (n : Nat) (hn : n ≤ 1000) : OwnS (w.alloc (.cells (noughts n) 3)) 3 1 (some ⟨w.heap.size, 0, none⟩) n n (ints (List.replicate n 0)) [w.heap.size] := by
  have h := own_new w 3 n (ints (List.replicate n 0)) (by simp [ints]) (by omega);have e : (ints (List.replicate n 0)).toArray = noughts n := by simp [ints, noughts]
  rwa [e] at h
theorem planW_plsm {p : Prt} {l : List Vst} (hm : 0 < p.bts.length) (hl : l.all vstOk = true) {σ : List Nat} (hσ : σ ∈ ordS l.length l.length []) {w : Nat} (hw : w < p.bts.length ^ l.length) (hg : (planW p l σ w).good = true) : PlSm l (planW p l σ w).pl := by
  have h := (leaf_iff (p := p) (l := l) hm).2 ⟨σ, hσ, w, hw, hg, rfl⟩;obtain ⟨h1, h2⟩ := Leaf.way hl h;exact way_plsm hl h1 h2
theorem least_w {c : LsC} {D : Nat} {W0 wr : World} (E : LsE c D wr) (K : LsK c) {i w ways n m nb cb : Nat} {Ab : Option Addr} {qb : List Nat} {σ : List Nat} {s : Bool × List Plc} (hσ : (ordS c.l.length c.l.length [])[i]? = some σ) (hn : n = c.l.length) (hm : m = c.p.bts.length) (hw : w < ways) (hways : ways = m ^ n) (hwb : ways ≤ 1024) (hi : i ≤ 100000) (hnb : nb = s.2.length) (O : Own D W0 [.own 56 2 Ab nb cb (plcs s.2) qb] wr) (hS : s.1 = true → PlSm c.l s.2) {s0 s3 s4 s5 s8 s13 s14 s15 s16 s17 s18 s19 s20 s21 s22 s23 s24 s25 s26 s27 s28 s29 s30 s31 s32 s33 s34 s35 s36 s37 s38 s39 s40 s41 s42 s43 s44 s45 s46 s47 s48 s49 s50 s51 s52 s53 s54 s55 s56 s57 s58 s59 s60 s61 s62 s63 s64 s65 s66 s67 s68 s69 s70 s71 s72 s73 s74 s75 s76 s77 s78 s79 s80 s81 s82 s83 s84 s85 s86 s87 s88 s89 s90 s91 s92 s93 s94 s95 s96 s97 s98 s99 s100 s101 s102 s103 s104 s105 s106 s107 s108 s109 s110 s111 s112 s113 s114 s115 s116 s117 s118 s119 s120 s121 s122 s123 s124 s125 s126 s127 s128 s129 s130 s131 s132 s133 s134 s135 s136 s137 : Value} {Q0 : Exit → Act → World → Prop} {Inv : Act → World → Prop}
    (hInv : ∀ (t13 t14 t15 t16 t17 t18 t19 t20 t41 t42 t43 t44 t45 t46 t47 t48 t49 t50 t51 t52 t53 t54 t55 t56 t57 t58 t59 t60 t61 t62 t63 t64 t65 t66 t67 t68 t69 t70 t71 t72 t73 t74 t75 t76 t77 t78 t79 t80 t81 t82 t83 t84 t85 t86 t87 t88 t89 t90 t91 t92 t93 t94 t95 t96 t97 t98 t99 t100 t101 t102 t103 t104 t105 t106 t107 t108 t109 t110 t111 t112 t113 t114 t115 t116 t117 t118 t119 t120 t121 t122 t123 t124 t125 t126 t127 t128 t129 t130 t131 t132 t133 t134 t135 : Value) (s' : Bool × List Plc) (Ab' : Option Addr) (nb' cb' : Nat) (qb' : List Nat) (w' : World), s' = lsStep c.p c.l σ s w → nb' = s'.2.length → Own D W0 [.own 56 2 Ab' nb' cb' (plcs s'.2) qb'] w' → (s'.1 = true → PlSm c.l s'.2) → Inv ⟨#[s0, .slice c.Av n c.cv, .pointer (some ⟨c.pb, 0, none⟩), s3, s4, s5, .slice c.Ao c.rows.length c.co, .int .i64 (ways : Int), s8, .slice Ab' nb' cb', .bool s'.1, .int .i64 (i : Int), .int .i64 ((w : Int) + 1), t13, t14, t15, t16, t17, t18, t19, t20, s21, s22, s23, s24, s25, s26, s27, s28, s29, s30, s31, s32, s33, s34, s35, s36, s37, s38, s39, s40, t41, t42, t43, t44, t45, t46, t47, t48, t49, t50, t51, t52, t53, t54, t55, t56, t57, t58, t59, t60, t61, t62, t63, t64, t65, t66, t67, t68, t69, t70, t71, t72, t73, t74, t75, t76, t77, t78, t79, t80, t81, t82, t83, t84, t85, t86, t87, t88, t89, t90, t91, t92, t93, t94, t95, t96, t97, t98, t99, t100, t101, t102, t103, t104, t105, t106, t107, t108, t109, t110, t111, t112, t113, t114, t115, t116, t117, t118, t119, t120, t121, t122, t123, t124, t125, t126, t127, t128, t129, t130, t131, t132, t133, t134, t135, s136, s137], []⟩ w') :
    Code.wp Tryz.prog (loopBody Tryz.f43 2) (Exit.then Inv Q0) ⟨#[s0, .slice c.Av n c.cv, .pointer (some ⟨c.pb, 0, none⟩), s3, s4, s5, .slice c.Ao c.rows.length c.co, .int .i64 (ways : Int), s8, .slice Ab nb cb, .bool s.1, .int .i64 (i : Int), .int .i64 (w : Int), s13, s14, s15, s16, s17, s18, s19, s20, s21, s22, s23, s24, s25, s26, s27, s28, s29, s30, s31, s32, s33, s34, s35, s36, s37, s38, s39, s40, s41, s42, s43, s44, s45, s46, s47, s48, s49, s50, s51, s52, s53, s54, s55, s56, s57, s58, s59, s60, s61, s62, s63, s64, s65, s66, s67, s68, s69, s70, s71, s72, s73, s74, s75, s76, s77, s78, s79, s80, s81, s82, s83, s84, s85, s86, s87, s88, s89, s90, s91, s92, s93, s94, s95, s96, s97, s98, s99, s100, s101, s102, s103, s104, s105, s106, s107, s108, s109, s110, s111, s112, s113, s114, s115, s116, s117, s118, s119, s120, s121, s122, s123, s124, s125, s126, s127, s128, s129, s130, s131, s132, s133, s134, s135, s136, s137], []⟩ wr := by
  conv => arg 2; whnf
  have hn5 : n ≤ 5 := by rw [hn]; exact K.nl
  have hm4 : 1 ≤ m ∧ m ≤ 4 := by rw [hm]; exact K.nb
  have hwI : (w : Int) < (ways : Int) := by omega
  have hD := O.lo;obtain ⟨f, B⟩ := s;simp only at hnb O hS ⊢;have p1 := E.port1;have zp := hL_ E.port;rw [← hm] at p1;have mk1 := run_make_rplcs n (by omega) wr;have HX := Lib.hid (And.intro E (And.intro K (And.intro hσ (And.intro hn (And.intro hm (And.intro hways (And.intro hnb (And.intro O (And.intro hS hInv)))))))));clear E K hσ hn hm hways hnb O hS hInv;go_upto_region 16 with fail
  clear mk1;obtain ⟨X1, hX1⟩ : ∃ X, X = wr.alloc (.cells (plc0 n) 56) := ⟨_, rfl⟩;obtain ⟨gp, hgp⟩ : ∃ b, b = wr.heap.size := ⟨_, rfl⟩;have hP1 : OwnS X1 56 2 (some ⟨gp, 0, none⟩) n n (plcs (List.replicate n ⟨0, 0⟩)) [gp] := by rw [hX1, hgp]; exact own_plcs wr n (by omega)
  have k1 : Keep [] wr X1 := by rw [hX1]; exact (Keep.refl _ _).alloc _
  rw [← hX1, ← hgp];have p1' := k1.cell p1 (by simp);have zp' := Nat.lt_of_lt_of_le zp k1.size;have hgp2 : wr.heap.size ≤ gp := by omega
  clear p1 zp hX1 hgp;have mk2 := run_makeI m (by omega) X1;have HP := Lib.hid (And.intro hP1 (And.intro k1 hgp2));clear hP1 k1 hgp2;go_upto_region 17 with fail
  clear mk2 p1' zp';obtain ⟨X2, hX2⟩ : ∃ X, X = X1.alloc (.cells (noughts m) 3) := ⟨_, rfl⟩;obtain ⟨ge, hge⟩ : ∃ b, b = X1.heap.size := ⟨_, rfl⟩;have hF2 : OwnS X2 3 1 (some ⟨ge, 0, none⟩) m m (ints (List.replicate m 0)) [ge] := by rw [hX2, hge]; exact own_ints0 X1 m (by omega)
  have hP2 : OwnS X2 56 2 (some ⟨gp, 0, none⟩) n n (plcs (List.replicate n ⟨0, 0⟩)) [gp] := by rw [hX2]; exact HP.out.1.alloc _
  have k2 : Keep [] wr X2 := by rw [hX2]; exact HP.out.2.1.alloc _
  have hpe : gp ≠ ge := by have := HP.out.1.lt gp (by simp); omega
  have hge2 : wr.heap.size ≤ ge := by have := HP.out.2.1.size; omega
  rw [← hX2, ← hge];clear hX2 hge;have hgp2 := HP.out.2.2;have HE := Lib.hid (And.intro hF2 (And.intro hP2 (And.intro k2 (And.intro hpe (And.intro hgp2 hge2)))));clear hF2 hP2 k2 hpe hgp2 hge2
  go_upto_block 6 with fail
  go_cut [15, 16, 17, 18, 19, 20] from 54 to 123 (fun gd r i vv bv sv wx => ∃ t : PlS, t = planW c.p c.l σ w ∧ gd = .bool t.good ∧ PlK c n t ∧ OwnS wx 56 2 (some ⟨gp, 0, none⟩) n n (plcs t.pl) [gp] ∧ Keep [gp, ge] wr wx)
  case first =>
    go_wp2_with fail
    go_loopw [15, 16, 17] (fun gd r i wx => ∃ (k : Nat) (t : PlS), k ≤ n ∧ i = .int .i64 k ∧ gd = .bool t.good ∧ r = .int .i64 (t.rest : Int) ∧ t = plRun c.p c.l (σ.take k) (pl0 c.p c.l w) ∧ PlK c k t ∧ OwnS wx 56 2 (some ⟨gp, 0, none⟩) n n (plcs t.pl) [gp] ∧ OwnS wx 3 1 (some ⟨ge, 0, none⟩) m m (ints t.free) [ge] ∧ Keep [gp, ge] wr wx) (fun gd r i _ => n - (RowKit.intOf i).toNat)
    case atStart =>
      refine ⟨0, pl0 c.p c.l w, by omega, rfl, rfl, rfl, rfl, ?_, ?_, ?_, HE.out.2.2.1.mono (by simp)⟩
      · exact ⟨by simp [pl0], by simp [pl0], by show w ≤ 100000; omega, fun x hx => by rw [List.eq_of_mem_replicate hx]; omega⟩
      · have := HE.out.2.1; unfold pl0; rwa [HX.out.2.2.2.1] at this ⊢
      · have := HE.out.1; unfold pl0; rwa [HX.out.2.2.2.2.1] at this ⊢
    case round =>
      obtain ⟨k, t, hk, rfl, rfl, rfl, ht, hK, hP, hF, hkp⟩ := hrel;by_cases hlt : k < n
      · have hEr := HX.out.1.below hD (hkp.below hD (fun x hx => by
          have := HE.out.2.2.2.2;simp only [List.mem_cons, List.not_mem_nil, or_false] at hx;rcases hx with rfl | rfl <;> omega))
        refine least_k hEr HX.out.2.1 (Nat.le_trans hD hkp.size) HX.out.2.2.1 HX.out.2.2.2.1 HX.out.2.2.2.2.1 hlt hi hK hP hF HE.out.2.2.2.1 (by have := HE.out.2.2.2.2; omega) ?_
        intros
        rename_i t' w' hst hK' hP' hF' hkp'
        obtain ⟨q, hq, rfl⟩ := hst;refine ⟨?_, by simp [RowKit.intOf]; omega⟩
        repeat apply Exists.intro
        refine ⟨?_, rfl⟩;refine ⟨k + 1, _, by omega, by go_num, rfl, rfl, ?_, hK', hP', hF', hkp.trans hkp' (fun x hx => .inl hx)⟩;obtain ⟨hkl, hq'⟩ := List.getElem?_eq_some_iff.1 hq;rw [List.take_succ_eq_append_getElem hkl];unfold plRun at ht ⊢;rw [List.foldl_append, ← ht, ← hq'];rfl
      · obtain rfl : k = n := by omega
        have hno : ¬ (k : Int) < (k : Int) := by omega
        have HJ := Lib.hid (And.intro ht (And.intro hK (And.intro hP hkp)));clear ht hK hP hF hkp hlt;go_wp2_with fail
        go_meet
        refine ⟨t, ?_, rfl, HJ.out.2.1, HJ.out.2.2.1, HJ.out.2.2.2⟩;rw [HJ.out.1];unfold planW;obtain ⟨τ, e, h1, _, _⟩ := ordS_mem.1 (List.mem_of_getElem? HX.out.2.2.1);rw [List.take_of_length_le];simp only [List.nil_append] at e;rw [e, h1, HX.out.2.2.2.1]; exact Nat.le_refl _
  case rest =>
  obtain ⟨t, ht, rfl, hK, hP, hkp⟩ := hcut;obtain ⟨wz, rfl, hkp⟩ : ∃ wz, wz = _ ∧ Keep [gp, ge] wr wz := ⟨_, rfl, hkp⟩
  apply_assumption
  obtain ⟨rest, free, pl, good⟩ := t;simp only at hP hK ⊢;have hSz : ∀ x ∈ [gp, ge], wr.heap.size ≤ x := fun x hx => by
    have := HE.out.2.2.2.2;simp only [List.mem_cons, List.not_mem_nil, or_false] at hx;rcases hx with rfl | rfl <;> omega
  have hpln : pl.length = n := by rw [HX.out.2.2.2.1]; exact hK.pl
  have hstep : lsStep c.p c.l σ (f, B) w = if good && (!f || lessS c.l pl B) then (true, pl) else (f, B) := by
    unfold lsStep; rw [← ht]
  have hgs : good = true → PlSm c.l pl := fun hg => by
    have := planW_plsm (p := c.p) (l := c.l) (by have := HX.out.2.1.nb; omega) HX.out.2.1.ok (List.mem_of_getElem? HX.out.2.2.1) (w := w) (by rw [← HX.out.2.2.2.1, ← HX.out.2.2.2.2.1, ← HX.out.2.2.2.2.2.1]; exact hw);rw [← ht] at this;exact this hg
  have HZ := Lib.hid (And.intro hP (And.intro hkp (And.intro hSz (And.intro hpln (And.intro hstep hgs)))));have hwI2 : (w : Int) ≤ 1024 := by omega
  clear hP hkp hSz hpln hstep hgs hK ht;cases good
  · go_wp2_with fail
    refine HX.out.2.2.2.2.2.2.2.2.2 _ _ _ _ _ _ _ _ _ _ _ _ _ _ _ _ _ _ _ _ _ _ _ _ _ _ _ _ _ _ _ _ _ _ _ _ _ _ _ _ _ _ _ _ _ _ _ _ _ _ _ _ _ _ _ _ _ _ _ _ _ _ _ _ _ _ _ _ _ _ _ _ _ _ _ _ _ _ _ _ _ _ _ _ _ _ _ _ _ _ _ _ _ _ _ _ _ _ _ _ _ _ _ (f, B) Ab nb cb qb _ ?_ HX.out.2.2.2.2.2.2.1 (HX.out.2.2.2.2.2.2.2.1.fresh HZ.out.2.1 HZ.out.2.2.1) HX.out.2.2.2.2.2.2.2.2.1;rw [HZ.out.2.2.2.2.1]; rfl
  · cases f
    · go_wp2_with fail
      refine HX.out.2.2.2.2.2.2.2.2.2 _ _ _ _ _ _ _ _ _ _ _ _ _ _ _ _ _ _ _ _ _ _ _ _ _ _ _ _ _ _ _ _ _ _ _ _ _ _ _ _ _ _ _ _ _ _ _ _ _ _ _ _ _ _ _ _ _ _ _ _ _ _ _ _ _ _ _ _ _ _ _ _ _ _ _ _ _ _ _ _ _ _ _ _ _ _ _ _ _ _ _ _ _ _ _ _ _ _ _ _ _ _ _ (true, pl) (some ⟨gp, 0, none⟩) n n [gp] _ ?_ HZ.out.2.2.2.1.symm ?_ (fun _ => HZ.out.2.2.2.2.2 (by simp))
      · rw [HZ.out.2.2.2.2.1]; rfl
      · have h := HX.out.2.2.2.2.2.2.2.1.upd' 0 rfl (S := [gp, ge]) HZ.out.2.1 (fun x hx => .inr (HZ.out.2.2.1 x hx)) (i' := .own 56 2 (some ⟨gp, 0, none⟩) n n (plcs pl) [gp]) HZ.out.1 (fun x hx => .inr (HZ.out.2.2.1 x (by simp [It.fp] at hx; simp [hx])));exact h
    · obtain ⟨z, hz⟩ : ∃ z, z = lessS c.l pl B := ⟨_, rfl⟩;have kz : Calls Tryz.prog 47 #[.slice c.Av n c.cv, .slice (some ⟨gp, 0, none⟩) n n, .slice Ab nb cb] wz fun e w' => e = .returned (.bool z) ∧ Below wz.heap.size wz w' := by
        have hOz := HX.out.2.2.2.2.2.2.2.1.fresh HZ.out.2.1 HZ.out.2.2.1;have hb := (hOz.get 0 rfl : OwnS _ _ _ _ _ _ _ _).rd;have hEz := HX.out.1.below hD (HZ.out.2.1.below hD fun x hx => by have := HZ.out.2.2.1 x hx; omega);have := rless_any c.Av c.cv c.l (some ⟨gp, 0, none⟩) n pl Ab cb B wz (hEz.vis.rd hOz.lo) (by rw [HZ.out.2.2.2.1]; exact HZ.out.1.rd) (by rw [HX.out.2.2.2.2.2.2.1] at hb; exact hb) HX.out.2.1.nl (HZ.out.2.2.2.2.2 (by simp)) (HX.out.2.2.2.2.2.2.2.2.1 (by simp))
        rwa [HZ.out.2.2.2.1, ← HX.out.2.2.2.2.2.2.1, ← HX.out.2.2.2.1, ← hz] at this
      have HK := Lib.hid (And.intro kz hz);clear kz hz;cases z
      · go_wp2_with (go_at_call 47; refine HK.out.1.mono ?_; rintro e w3 ⟨rfl, b3⟩; have B3 := Lib.hid b3; clear b3)
        refine HX.out.2.2.2.2.2.2.2.2.2 _ _ _ _ _ _ _ _ _ _ _ _ _ _ _ _ _ _ _ _ _ _ _ _ _ _ _ _ _ _ _ _ _ _ _ _ _ _ _ _ _ _ _ _ _ _ _ _ _ _ _ _ _ _ _ _ _ _ _ _ _ _ _ _ _ _ _ _ _ _ _ _ _ _ _ _ _ _ _ _ _ _ _ _ _ _ _ _ _ _ _ _ _ _ _ _ _ _ _ _ _ _ _ (true, B) Ab nb cb qb _ ?_ HX.out.2.2.2.2.2.2.1 ((HX.out.2.2.2.2.2.2.2.1.fresh HZ.out.2.1 HZ.out.2.2.1).below B3.out) (fun _ => HX.out.2.2.2.2.2.2.2.2.1 (by simp));rw [HZ.out.2.2.2.2.1, ← HK.out.2]; rfl
      · go_wp2_with (go_at_call 47; refine HK.out.1.mono ?_; rintro e w3 ⟨rfl, b3⟩; have B3 := Lib.hid b3; clear b3)
        refine HX.out.2.2.2.2.2.2.2.2.2 _ _ _ _ _ _ _ _ _ _ _ _ _ _ _ _ _ _ _ _ _ _ _ _ _ _ _ _ _ _ _ _ _ _ _ _ _ _ _ _ _ _ _ _ _ _ _ _ _ _ _ _ _ _ _ _ _ _ _ _ _ _ _ _ _ _ _ _ _ _ _ _ _ _ _ _ _ _ _ _ _ _ _ _ _ _ _ _ _ _ _ _ _ _ _ _ _ _ _ _ _ _ _ (true, pl) (some ⟨gp, 0, none⟩) n n [gp] _ ?_ HZ.out.2.2.2.1.symm ?_ (fun _ => HZ.out.2.2.2.2.2 (by simp))
        · rw [HZ.out.2.2.2.2.1, ← HK.out.2]; rfl
        · have h := HX.out.2.2.2.2.2.2.2.1.upd' 0 rfl (S := [gp, ge]) HZ.out.2.1 (fun x hx => .inr (HZ.out.2.2.1 x hx)) (i' := .own 56 2 (some ⟨gp, 0, none⟩) n n (plcs pl) [gp]) HZ.out.1 (fun x hx => .inr (HZ.out.2.2.1 x (by simp [It.fp] at hx; simp [hx])));exact Own.below h B3.out
theorem rVerify_of (D : Nat) (Ac : Option Addr) (cc : Nat) (Ab : Option Addr) (cb : Nat) (p : Prt) (Av : Option Addr) (cv : Nat) (l : List Vst) (Aa : Option Addr) (ca : Nat) (a : List Plc) (w : World) (PB : PrtB D w Ac cc Ab cb p) (VB : RdB D w 4 Av l.length (vscs l)) (AB : RdB D w 2 Aa a.length (plcs a)) (hD : D ≤ w.heap.size)
    (kL : askedE p l = 0 → ∀ wx, Below w.heap.size w wx → Calls Tryz.prog 43 #[.agg (prtV Ac cc Ab cb p), .slice Av l.length cv] wx (LeastPost wx p l)) :
    Calls Tryz.prog 19 #[.agg (prtV Ac cc Ab cb p), .slice Av l.length cv, .slice Aa a.length ca] w (VerPost w p l a) := by
  obtain ⟨W, hW⟩ : ∃ W, W = w.alloc (.cells (prtV Ac cc Ab cb p) 51) := ⟨_, rfl⟩;obtain ⟨pb, hpb⟩ : ∃ b, b = w.heap.size := ⟨_, rfl⟩;have hh : W.heap[pb]? = some (.cells (prtV Ac cc Ab cb p) 51 (0, 0)) := by rw [hW, hpb]; exact heap_alloc_new _ _
  have b0 : Below w.heap.size w W := by rw [hW]; exact (Below.refl _ _).alloc (Nat.le_refl _) _
  have hD1 : D ≤ W.heap.size := by have := b0.size; omega
  have c0 : W.cell? ⟨pb, 0, none⟩ = some (.slice Ac p.chs.length cc) := (cOH hh 0).trans rfl;have c1 : W.cell? ⟨pb, 1, none⟩ = some (.slice Ab p.bts.length cb) := (cOH hh 1).trans rfl;have c2 : W.cell? ⟨pb, 2, none⟩ = some (.int .i64 p.tugs) := (cOH hh 2).trans rfl;have zp := hL_ hh;obtain ⟨er, her⟩ : ∃ er, er = askedE p l := ⟨_, rfl⟩;have PB1 := PB.below (b0.mono hD);have VB1 := VB.below (b0.mono hD);have AB1 := AB.below (b0.mono hD);have ka := rasked9_any D Ac cc Ab cb p Av cv l W PB1 (VB1.rd hD1) hD1;rw [← her] at ka;have H := Lib.hid (And.intro b0 (And.intro her (And.intro ka (And.intro PB1 (And.intro VB1 (And.intro hh AB1))))));have HKL := Lib.hid kL;clear hh b0 ka her PB VB PB1 VB1 AB AB1 kL
  go_enter Tryz.func19, Tryz.ntmps19
  go_upto_region 1 with fail
  rw [← hW, ← hpb];clear hW hpb;by_cases h0 : er = 0
  · subst h0;by_cases hal : a.length = l.length
    · have hck : checkP p = 0 ∧ l.length ≤ 5 ∧ l.all vstOk = true := by
        have hok := H.out.2.1.symm;unfold askedE at hok;split at hok
        · rename_i h; exact absurd hok h
        · rename_i h
          split at hok
          · cases hok
          · split at hok
            · cases hok
            · rename_i h2 h3; exact ⟨by omega, by omega, by simpa using h3⟩
      have hnl := hck.2.1;have hnb := (checkP_ok hck.1).nb;have hvok : ∀ v ∈ l, 0 ≤ v.arr ∧ v.arr ≤ 1000 ∧ v.arr ≤ v.last ∧ v.last ≤ 2000 ∧ 1 ≤ v.stay ∧ v.stay ≤ 100 ∧ 10 ≤ v.dra ∧ v.dra ≤ 3000 := fun v hv => by
        have := List.all_eq_true.1 hck.2.2 v hv;simp only [vstOk, Bool.and_eq_true, Pt.within_iff] at this;omega
      have hle := leastR_eq (p := p) (l := l) (by omega) hck.2.2;have hst : ∀ i, i < l.length → 1 ≤ (vs l i).stay := fun i hi => by
        rw [vs_at hi]; exact (hvok _ (List.getElem_mem hi)).2.2.2.2.1
      have HV := Lib.hid (And.intro hvok (And.intro hal (And.intro hck.2.2 (And.intro hle hst))));have hne : ((l.length : Int) != (l.length : Int)) = false := by simp
      have AB2 := H.out.2.2.2.2.2.2;rw [hal] at AB2;have HAB := Lib.hid AB2;rw [hal];clear hck hvok hal AB2 hle hst;go_upto_region 4 with (go_at_call 42; refine H.out.2.2.1.mono ?_; rintro e w1 ⟨rfl, b1⟩; have B1 := Lib.hid b1; clear b1)
      have hh1 := (B1.out.block _ (hL_ H.out.2.2.2.2.2.1)).trans H.out.2.2.2.2.2.1;have hDw : D ≤ w1.heap.size := by have := B1.out.size; omega
      have G := Lib.hid (And.intro (H.out.2.2.2.1.below (B1.out.mono hD1)) (And.intro (H.out.2.2.2.2.1.below (B1.out.mono hD1)) (And.intro hh1 (And.intro (H.out.1.trans (B1.out.mono H.out.1.size)) (And.intro hDw (HAB.out.below (B1.out.mono hD1)))))));clear c0 c1 c2 zp hh1 hDw;go_wp2_with fail
      go_loopg [9] (l.length) (fun g i wr => ∃ k : Nat, g + k = l.length ∧ i = .int .i64 k ∧ verF p l a k = 0 ∧ Keep [] w1 wr)
      case atStart => exact ⟨0, rfl, rfl, rfl, Keep.refl _ _⟩
      case round =>
        obtain ⟨k, hk, rfl, hvf, hK⟩ := hrel;by_cases hlt : k < l.length
        · have hka : k < a.length := by have := HV.out.2.1; omega
          have bD := hK.below' G.out.2.2.2.2.1 (by simp);obtain ⟨b, off, eA, hbD, d0, d1, d2, d3⟩ := vst_at (G.out.2.1.below bD) hlt;have AB3 := G.out.2.2.2.2.2.below bD;rw [← HV.out.2.1] at AB3;obtain ⟨ob, oo, eO, hoD, o0, o1⟩ := plc_at AB3 hka;obtain ⟨x, hx⟩ : ∃ x, x = a[k] := ⟨_, rfl⟩;obtain ⟨v, hv⟩ : ∃ v, v = l[k] := ⟨_, rfl⟩;have hvo := HV.out.1 l[k] (List.getElem_mem _);rw [← hv] at d0 d1 d2 d3 hvo;rw [← hx] at o0 o1;have zb := World.block_lt_of_cell? _ _ d0;have zo := World.block_lt_of_cell? _ _ o0;obtain ⟨xb, xs⟩ := x;obtain ⟨va, vl, vy, vd⟩ := v;simp only at d0 d1 d2 d3 hvo o0 o1 zb zo;have hp2 := (hK.block _ (hL_ G.out.2.2.1) (by simp)).trans G.out.2.2.1;have r1 : wr.cell? ⟨pb, 1, none⟩ = some (.slice Ab p.bts.length cb) := (cOH hp2 1).trans rfl;have zp := hL_ hp2;have hpk : pc a k = ⟨xb, xs⟩ := by rw [pc_at hka, ← hx]
          have hvk : vs l k = ⟨va, vl, vy, vd⟩ := by rw [vs_at hlt, ← hv]
          have bw2 : Below w.heap.size w wr := G.out.2.2.2.1.trans ((hK.below' (Nat.le_refl _) (by simp)).mono G.out.2.2.2.1.size);have hbad : ∀ x, verX p l a k = x → x ≠ 0 → verE p l a = x := fun x h1 h2 => (verE_bad H.out.2.1.symm HV.out.2.1 hvf h1 h2 hlt).1;have hX : verX p l a k = if within xb 0 ((p.bts.length : Int) - 1) = false then 6 else if (bt p xb).depth < vd then 100 else if within xs va vl = false then 12 else if (List.range k).any (clash l a k) = true then 9 else 0 := by
            unfold verX; rw [hpk, hvk]
          have HI := Lib.hid (And.intro hvf (And.intro hK (And.intro hpk (And.intro hvk bw2))));have HB := Lib.hid (And.intro hbad hX);clear hvf hK AB3 hp2 hpk hvk bw2 hx hv hbad hX;rw [eA, eO];obtain ⟨z1, hz1⟩ : ∃ z, z = within xb 0 ((p.bts.length : Int) - 1) := ⟨_, rfl⟩;have ki1 : ∀ wx : World, Calls Tryz.prog 46 #[.int .i64 xb, .int .i64 0, .int .i64 ((p.bts.length : Int) - 1)] wx fun e w' => e = .returned (.bool z1) ∧ w' = wx := fun wx => by
            rw [hz1]; exact (rin9_any _ _ _ wx).mono fun e W' ⟨h1, h2⟩ => ⟨h1, h2.symm⟩
          have KI1 := Lib.hid ki1;have HZ1 := Lib.hid hz1;clear ki1;cases z1
          · clear hz1;go_wp2_with fail
            go_quiet ((go_at_call 46; with_reducible exact Calls.quiet_of_same (KI1.out _)));go_wp2_with fail
            go_ret2
            exact ver_no (HB.out.1 6 (by rw [HB.out.2, if_pos HZ1.out.symm]) (by decide)) (by decide) (HI.out.2.2.2.2.trans (((Keep.refl [] _).drewN _).below HI.out.2.2.2.2.size (by simp)))
          · obtain ⟨q, hq⟩ : ∃ q : Nat, xb = q := ⟨xb.toNat, by simp [within] at hz1; omega⟩;subst hq;have hqb : q < p.bts.length := by simp [within] at hz1; omega
            obtain ⟨b', off', Ak, ck, eB, hbD', e0, _, _⟩ := (G.out.1.below bD).bts q hqb;obtain ⟨dp, hdp⟩ : ∃ z, z = (p.bts[q]).depth := ⟨_, rfl⟩;rw [← hdp] at e0;have hdq : (bt p (q : Int)).depth = dp := by rw [hdp]; simp [bt, hqb]
            have zq := World.block_lt_of_cell? _ _ e0;simp only at zq;have hqI : (0 : Int) ≤ (q : Int) ∧ (q : Int) < (p.bts.length : Int) := by omega
            have HQ := Lib.hid (And.intro hdq eB);rw [eB] at r1;clear hdq hdp eB hz1;by_cases hdd : dp < vd
            · have hdt : decide (dp < vd) = true := decide_eq_true hdd;go_wp2_with fail
              go_quiet ((go_at_call 46; with_reducible exact Calls.quiet_of_same (KI1.out _)));go_wp2_with fail
              go_quiet (fail);go_wp2_with fail
              go_ret2
              exact ver_no (HB.out.1 100 (by rw [HB.out.2, if_neg (by rw [← HZ1.out]; simp), if_pos (by rw [HQ.out.1]; exact hdd)]) (by decide)) (by decide) (HI.out.2.2.2.2.trans ((((Keep.refl [] _).drewN _).drewN _).below HI.out.2.2.2.2.size (by simp)))
            · have hdf : decide (dp < vd) = false := decide_eq_false hdd;have HDD := Lib.hid hdd;clear hdd;obtain ⟨z2, hz2⟩ : ∃ z, z = within xs va vl := ⟨_, rfl⟩;have ki2 : ∀ wx : World, Calls Tryz.prog 46 #[.int .i64 xs, .int .i64 va, .int .i64 vl] wx fun e w' => e = .returned (.bool z2) ∧ w' = wx := fun wx => by
                rw [hz2]; exact (rin9_any _ _ _ wx).mono fun e W' ⟨h1, h2⟩ => ⟨h1, h2.symm⟩
              have KI2 := Lib.hid ki2;have HZ2 := Lib.hid hz2;clear ki2;cases z2
              · clear hz2;go_wp2_with fail
                go_quiet ((go_at_call 46; with_reducible exact Calls.quiet_of_same (KI1.out _)));go_wp2_with fail
                go_quiet (fail);go_wp2_with fail
                go_quiet ((go_at_call 46; refine (KI2.out _).mono ?_; rintro e W1 ⟨rfl, rfl⟩; exact ⟨rfl, _, rfl⟩));go_wp2_with fail
                go_ret2
                exact ver_no (HB.out.1 12 (by rw [HB.out.2, if_neg (by rw [← HZ1.out]; simp), if_neg (by rw [HQ.out.1]; have := HDD.out; omega), if_pos HZ2.out.symm]) (by decide)) (by decide) (HI.out.2.2.2.2.trans (((((Keep.refl [] _).drewN _).drewN _).drewN _).below HI.out.2.2.2.2.size (by simp)))
              · have hxs : va ≤ xs ∧ xs ≤ vl := by simpa [within] using hz2
                clear hz2;go_wp2_with fail
                go_quiet ((go_at_call 46; with_reducible exact Calls.quiet_of_same (KI1.out _)));go_wp2_with fail
                go_quiet (fail);go_wp2_with fail
                go_quiet ((go_at_call 46; refine (KI2.out _).mono ?_; rintro e W1 ⟨rfl, rfl⟩; exact ⟨rfl, _, rfl⟩));go_upto_region 15 with fail
                obtain ⟨W3, hW3, k3⟩ : ∃ W3, W3 = _ ∧ Keep [] wr W3 := ⟨_, rfl, (((Keep.refl _ _).drewN _).drewN _).drewN _⟩;rw [← hW3];have k13 := HI.out.2.1.trans k3 (by simp);have bD3 := k13.below' G.out.2.2.2.2.1 (by simp);have HK3 := Lib.hid (And.intro k3 (And.intro k13 bD3));clear hW3 r1 zp d0 d1 d2 d3 o0 o1 zb zo zq k3 k13 bD3 bD e0 KI1 KI2;obtain ⟨N, hN⟩ : ∃ N : Nat, vy = N := ⟨vy.toNat, by omega⟩;subst hN;go_wp2_with fail
                go_loopg [10] k (fun g i wr => ∃ j : Nat, g + j = k ∧ i = .int .i64 j ∧ (List.range j).any (clashH l a k) = false ∧ Keep [] W3 wr)
                case atStart => exact ⟨0, rfl, rfl, rfl, Keep.refl _ _⟩
                case round =>
                  obtain ⟨j, hj, rfl, hcl, hKj⟩ := hrel;by_cases hlj : j < k
                  · have hja : j < a.length := by omega
                    have hjl : j < l.length := by omega
                    have bDj := HK3.out.2.2.trans (hKj.below (Nat.le_trans G.out.2.2.2.2.1 HK3.out.2.1.size) (by simp));have AB3 := G.out.2.2.2.2.2.below bDj;rw [← HV.out.2.1] at AB3;obtain ⟨ob', oo', eO', hoD', o0, o1⟩ := plc_at AB3 hja;obtain ⟨ob2, oo2, eO2, _, p0, p1⟩ := plc_at AB3 hka;obtain ⟨b2, off2, eA2, hbD2, _, _, d2, _⟩ := vst_at (G.out.2.1.below bDj) hjl;obtain ⟨b3, off3, eA3, hbD3, _, _, s2, _⟩ := vst_at (G.out.2.1.below bDj) hlt;rw [eO] at eO' eO2;injection eO' with eO'
                    injection eO' with e1 e2 _
                    subst e1 e2;injection eO2 with eO2
                    injection eO2 with e1 e2 _
                    subst e1 e2;rw [eA] at eA2 eA3;injection eA2 with eA2
                    injection eA2 with e1 e2 _
                    subst e1 e2;injection eA3 with eA3
                    injection eA3 with e1 e2 _
                    subst e1 e2;obtain ⟨yb, hyb⟩ : ∃ x, x = (a[j]).berth := ⟨_, rfl⟩;obtain ⟨ys, hys⟩ : ∃ x, x = (a[j]).start := ⟨_, rfl⟩;obtain ⟨ly, hly⟩ : ∃ x, x = (l[j]).stay := ⟨_, rfl⟩;have hpj : pc a j = ⟨yb, ys⟩ := by rw [pc_at hja, hyb, hys]
                    have hvj : (vs l j).stay = ly := by rw [vs_at hjl, hly]
                    have hFj := (verX_zero.1 (verF_zero k |>.1 HI.out.1 j hlj)).1;have hf1 := hFj.lo;have hf2 := hFj.hi;rw [hpj, vs_at hjl] at hf1 hf2;simp only at hf1 hf2;have hvo2 := HV.out.1 l[j] (List.getElem_mem _);rw [← hly] at hvo2 d2;rw [← hyb] at o0;rw [← hys] at o1;have hys0 : 0 ≤ ys ∧ ys ≤ 2000 ∧ 1 ≤ ly ∧ ly ≤ 100 := by omega
                    have ek : a[k] = ⟨(q : Int), xs⟩ := by rw [← pc_at hka]; exact HI.out.2.2.1
                    have el : l[k] = ⟨va, vl, (N : Int), vd⟩ := by rw [← vs_at hlt]; exact HI.out.2.2.2.1
                    rw [ek] at p0 p1;rw [el] at s2;simp only at p0 p1 s2;clear hf1 hf2 hvo2 hFj ek el AB3;have zo := World.block_lt_of_cell? _ _ o0;have zl := World.block_lt_of_cell? _ _ d2;simp only at zo zl;have hcj : clashH l a k j = (List.range N).any fun t => decide (yb = (q : Int)) && (decide (ys ≤ xs + t) && decide (xs + t < ys + ly)) := by
                      unfold clashH; rw [hpj, HI.out.2.2.1, HI.out.2.2.2.1, hvj]; rfl
                    have hr1 : (List.range (j + 1)).any (clashH l a k) = ((List.range j).any (clashH l a k) || clashH l a k j) := by rw [List.range_succ, List.any_append]; simp
                    rw [hcl, Bool.false_or] at hr1;have HJ := Lib.hid (And.intro hr1 (And.intro hcj (And.intro hKj (And.intro (And.intro o0 (And.intro o1 (And.intro p0 (And.intro p1 (And.intro d2 s2))))) (And.intro hj hlj)))));have hjI : (0 : Int) ≤ (j : Int) ∧ (j : Int) < (k : Int) ∧ (j : Int) < (l.length : Int) := by omega
                    have zo2 := zo;have zl2 := zl;clear hr1 hcj hKj hpj hvj hyb hys hly d2 s2 o0 o1 p0;obtain ⟨C, hC⟩ : ∃ C : Nat → Bool, C = fun t : Nat => decide (yb = (q : Int)) && (decide (ys ≤ xs + t) && decide (xs + t < ys + ly)) := ⟨_, rfl⟩;have HC := Lib.hid hC;clear hC;go_wp2_with fail
                    clear p1 zo zl
                    go_loopg [11] N (fun g i wr6 => ∃ t : Nat, g + t = N ∧ i = .int .i64 (xs + t) ∧ (List.range t).any C = false ∧ Keep [] wr wr6)
                    case atStart => exact ⟨0, rfl, by simp, rfl, Keep.refl _ _⟩
                    case round =>
                      obtain ⟨t, ht, rfl, hct, hKt⟩ := hrel;have o0 := hKt.cell HJ.out.2.2.2.1.1 (by simp);have o1 := hKt.cell HJ.out.2.2.2.1.2.1 (by simp);have p0 := hKt.cell HJ.out.2.2.2.1.2.2.1 (by simp);have p1 := hKt.cell HJ.out.2.2.2.1.2.2.2.1 (by simp);have d2 := hKt.cell HJ.out.2.2.2.1.2.2.2.2.1 (by simp);have s2 := hKt.cell HJ.out.2.2.2.1.2.2.2.2.2 (by simp);have zo := World.block_lt_of_cell? _ _ o0;have zl := World.block_lt_of_cell? _ _ d2;simp only at zo zl;by_cases hlT : t < N
                      · have hdT : decide (xs + (t : Int) < xs + (N : Int)) = true := decide_eq_true (by omega);have hr1 : (List.range (t + 1)).any C = ((List.range t).any C || C t) := by rw [List.range_succ, List.any_append]; simp
                        have hCt : C t = (decide (yb = (q : Int)) && (decide (ys ≤ xs + t) && decide (xs + t < ys + ly))) := by rw [HC.out]
                        rw [hct, hCt, Bool.false_or] at hr1;have HT := Lib.hid (And.intro hr1 (And.intro hKt hlT));have HCt := Lib.hid hCt;clear hr1 hCt hct hKt;by_cases e1 : yb = (q : Int)
                        · have e1b : (yb == (q : Int)) = true := by simp [e1]
                          have E1 := Lib.hid e1;clear e1;by_cases e2 : ys ≤ xs + t
                          · have e2b : decide (ys ≤ xs + (t : Int)) = true := decide_eq_true e2;by_cases e3 : xs + t < ys + ly
                            · have e3b : decide (xs + (t : Int) < ys + ly) = true := decide_eq_true e3;have EE := Lib.hid (And.intro e2b e3b);go_wp2_with fail
                              go_quiet (fail);go_wp2_with fail
                              go_quiet (fail);go_wp2_with fail
                              go_ret2
                              have hKA := ((HK3.out.2.1.trans HJ.out.2.2.1 (by simp)).trans HT.out.2.1 (by simp));have hyes : clashH l a k j = true := by
                                rw [HJ.out.2.1, List.any_eq_true];exact ⟨t, List.mem_range.2 HT.out.2.2, by rw [decide_eq_true E1.out, EE.out.1, EE.out.2]; rfl⟩
                              rw [clashH_eq HV.out.2.2.2.2 hlt hjl] at hyes;refine ver_no (HB.out.1 9 (by
                                rw [HB.out.2, if_neg (by rw [← HZ1.out]; simp), if_neg (by rw [HQ.out.1]; have := HDD.out; omega), if_neg (by rw [← HZ2.out]; simp), if_pos];rw [List.any_eq_true];exact ⟨j, List.mem_range.2 hlj, hyes⟩) (by decide)) (by decide) ?_
                              exact G.out.2.2.2.1.trans ((((hKA.drewN _).drewN _).below (Nat.le_refl _) (by simp)).mono G.out.2.2.2.1.size)
                            · have e3b : decide (xs + (t : Int) < ys + ly) = false := decide_eq_false e3;have EE := Lib.hid e3b;clear e3;go_wp2_with fail
                              go_quiet (fail);go_wp2_with fail
                              go_quiet (fail);go_wp2_with fail
                              go_roundg (gk - 1);case measure => omega
                              case rel => exact ⟨t + 1, by omega, by go_num, by rw [HT.out.1, EE.out]; simp, HT.out.2.1.drewN _⟩
                          · have e2b : decide (ys ≤ xs + (t : Int)) = false := decide_eq_false e2;have EE := Lib.hid e2b;clear e2;go_wp2_with fail
                            go_quiet (fail);go_wp2_with fail
                            go_quiet (fail);go_wp2_with fail
                            go_roundg (gk - 1);case measure => omega
                            case rel => exact ⟨t + 1, by omega, by go_num, by rw [HT.out.1, EE.out]; simp, HT.out.2.1.drewN _⟩
                        · have e1b : (yb == (q : Int)) = false := by simpa using e1
                          have E1 := Lib.hid e1;clear e1;go_wp2_with fail
                          go_quiet (fail);go_wp2_with fail
                          go_quiet (fail);go_wp2_with fail
                          go_roundg (gk - 1);case measure => omega
                          case rel => exact ⟨t + 1, by omega, by go_num, by rw [HT.out.1, decide_eq_false E1.out]; simp, HT.out.2.1.drewN _⟩
                      · obtain rfl : t = N := by omega
                        have hdT : decide (xs + (t : Int) < xs + (t : Int)) = false := decide_eq_false (by omega);have HT := Lib.hid (And.intro hct hKt);clear hct hKt;go_wp2_with fail
                        go_quiet (fail);go_wp2_with fail
                        go_roundg (k - (j + 1));case measure => omega
                        case rel => exact ⟨j + 1, by omega, by go_num, by rw [HJ.out.1, HJ.out.2.1]; have := HT.out.1; rw [HC.out] at this; exact this, (HJ.out.2.2.1.trans HT.out.2 (by simp)).drewN _⟩
                  · obtain rfl : j = k := by omega
                    have hx0 : verX p l a j = 0 := by
                      rw [HB.out.2, if_neg (by rw [← HZ1.out]; simp), if_neg (by rw [HQ.out.1]; have := HDD.out; omega), if_neg (by rw [← HZ2.out]; simp), if_neg];intro hy;rw [List.any_eq_true] at hy;obtain ⟨i, hi, hy⟩ := hy;rw [← clashH_eq HV.out.2.2.2.2 hlt (by have := List.mem_range.1 hi; omega)] at hy;have hn := List.any_eq_false.1 hcl i hi;exact hn hy
                    have hvf1 : verF p l a (j + 1) = 0 := by show (if verF p l a j ≠ 0 then verF p l a j else verX p l a j) = 0; rw [if_neg (by rw [HI.out.1]; simp), hx0]
                    have HE := Lib.hid (And.intro hvf1 (HK3.out.2.1.trans hKj (by simp)));clear hvf1 hx0 hcl hKj;go_wp2_with fail
                    rw [← eA, ← eO];go_roundg (l.length - (j + 1));case measure => omega
                    case rel => exact ⟨j + 1, by omega, by go_num, HE.out.1, HE.out.2⟩
        · obtain rfl : k = l.length := by omega
          have bD := hK.below' G.out.2.2.2.2.1 (by simp);have b1r := hK.below' (Nat.le_refl _) (by simp);have hDr : D ≤ wr.heap.size := by have := G.out.2.2.2.2.1; have := b1r.size; omega
          have hpr := (hK.block _ (hL_ G.out.2.2.1) (by simp)).trans G.out.2.2.1;have r0 : wr.cell? ⟨pb, 0, none⟩ = some (.slice Ac p.chs.length cc) := (cOH hpr 0).trans rfl;have r1 : wr.cell? ⟨pb, 1, none⟩ = some (.slice Ab p.bts.length cb) := (cOH hpr 1).trans rfl;have r2 : wr.cell? ⟨pb, 2, none⟩ = some (.int .i64 p.tugs) := (cOH hpr 2).trans rfl;have zr := hL_ hpr;have bwr : Below w.heap.size w wr := G.out.2.2.2.1.trans (b1r.mono G.out.2.2.2.1.size);obtain ⟨hf0, hlf⟩ := less_found HV.out.2.2.1 HV.out.2.1 hvf;have kl := HKL.out H.out.2.1.symm wr bwr;unfold LeastPost at kl;rw [HV.out.2.2.2.1] at kl;simp only [hf0, decide_true, if_true] at kl;obtain ⟨F, hF⟩ : ∃ F, F = (bestS p l).found := ⟨_, rfl⟩;have hs := found_plsm HV.out.2.2.1 hf0;rw [← hF] at kl hs hlf;have hlen := hs.1;rw [hlen] at kl;have hsa := way_plsm HV.out.2.2.1 (verF_way.1 hvf) HV.out.2.1;obtain ⟨t, ht⟩ : ∃ t, t = lessS l F a := ⟨_, rfl⟩;have VR := (G.out.2.1.below bD).rd hDr;have AR := (G.out.2.2.2.2.2.below bD).rd hDr;have hle5 : l.length ≤ 5 := hnl;have ke : ∀ (wx : World) (A : Option Addr) (kk : Nat), Below wr.heap.size wr wx → Rd wx 2 A l.length (plcs F) → Calls Tryz.prog 47 #[.slice Av l.length cv, .slice A l.length kk, .slice Aa l.length ca] wx fun e w' => e = .returned (.bool t) ∧ Below wx.heap.size wx w' := by
            intro wx A kk bx hrx;have hra := AR.below bx;have := rless_any Av cv l A kk F Aa ca a wx (VR.below bx) (by rw [hlen]; exact hrx) (by rw [HV.out.2.1]; exact hra) hle5 hs hsa
            rwa [HV.out.2.1, hlen, ← ht] at this
          have kw : ∀ (wx : World), Below wr.heap.size wr wx → Calls Tryz.prog 44 #[.slice Av l.length cv, .slice Aa l.length ca] wx fun e w' => e = .returned (.int .i64 (wt l a)) ∧ Below wx.heap.size wx w' := by
            intro wx bx;have := rwaits_any Av cv l Aa ca a wx (VR.below bx) (by rw [HV.out.2.1]; exact AR.below bx) hle5 hsa
            rwa [HV.out.2.1] at this
          have hvE : verE p l a = if F = a then 0 else 7 := by
            unfold verE; rw [if_neg (fun h => h H.out.2.1.symm), if_neg (by rw [HV.out.2.1]; simp), if_neg (by rw [hvf]; simp), hF]
          have hvN : F = a → verN p l a = wt l a := fun h => by unfold verN; rw [if_pos (by rw [hvE, if_pos h])]; rfl
          have hta : t = !decide (F = a) := by rw [ht, hlf]
          have HF := Lib.hid (And.intro kl (And.intro ke (And.intro kw (And.intro hvE (And.intro hvN (And.intro hta bwr))))));clear kl ke kw hvE hvN hF hK bD b1r hpr hvf hlf hs hlen hsa ht VR AR hta bwr hf0;cases t
          · go_wp2_with (first | (go_at_call 43; refine HF.out.1.mono ?_; rintro e w2 ⟨A, kk, rfl, o1, o2⟩; have HG := Lib.hid (And.intro o1 o2); clear o1 o2) | (go_at_call 47; refine (HF.out.2.1 _ _ _ HG.out.2 HG.out.1).mono ?_; rintro e w3 ⟨rfl, b3⟩; have HH := Lib.hid (HG.out.2.trans (b3.mono HG.out.2.size)); clear b3) | (go_at_call 44; refine (HF.out.2.2.1 _ HH.out).mono ?_; rintro e w4 ⟨rfl, b4⟩; have HW := Lib.hid (HH.out.trans (b4.mono HH.out.size)); clear b4))
            go_ret2
            have e0 : F = a := by have := HF.out.2.2.2.2.2.1; simpa using this
            exact ⟨by rw [HF.out.2.2.2.1, if_pos e0, HF.out.2.2.2.2.1 e0]; rfl, HF.out.2.2.2.2.2.2.trans (HW.out.mono HF.out.2.2.2.2.2.2.size)⟩
          · go_wp2_with (first | (go_at_call 43; refine HF.out.1.mono ?_; rintro e w2 ⟨A, kk, rfl, o1, o2⟩; have HG := Lib.hid (And.intro o1 o2); clear o1 o2) | (go_at_call 47; refine (HF.out.2.1 _ _ _ HG.out.2 HG.out.1).mono ?_; rintro e w3 ⟨rfl, b3⟩; have HH := Lib.hid (HG.out.2.trans (b3.mono HG.out.2.size)); clear b3))
            go_ret2
            have e0 : ¬ F = a := by have := HF.out.2.2.2.2.2.1; simpa using this
            exact ver_no (by rw [HF.out.2.2.2.1, if_neg e0]) (by decide) (HF.out.2.2.2.2.2.2.trans (HH.out.mono HF.out.2.2.2.2.2.2.size))
    · have hne : ((a.length : Int) != (l.length : Int)) = true := by simp; omega
      have HL := Lib.hid hal;clear hal;go_wp2_with (go_at_call 42; refine H.out.2.2.1.mono ?_; rintro e w1 ⟨rfl, b1⟩; have B1 := Lib.hid b1; clear b1)
      go_ret2
      exact ver_no (by unfold verE; rw [if_neg (fun h => h H.out.2.1.symm), if_pos HL.out]) (by decide) (H.out.1.trans (B1.out.mono H.out.1.size))
  · have hnb : (er != 0) = true := by simp [h0]
    have HC := Lib.hid h0;clear h0;go_wp2_with (go_at_call 42; refine H.out.2.2.1.mono ?_; rintro e w1 ⟨rfl, b1⟩; have B1 := Lib.hid b1; clear b1)
    go_ret2
    exact ver_no (by unfold verE; rw [if_pos (by rw [← H.out.2.1]; exact HC.out), H.out.2.1]) HC.out (H.out.1.trans (B1.out.mono H.out.1.size))
theorem asked_parts {p : Prt} {l : List Vst} (h : askedE p l = 0) : checkP p = 0 ∧ l.length ≤ 5 ∧ l.all vstOk = true := by
  unfold askedE at h;split at h
  · rename_i h1; exact absurd h h1
  · rename_i h1
    split at h
    · cases h
    · split at h
      · cases h
      · rename_i h2 h3; exact ⟨by omega, by omega, by simpa using h3⟩
theorem pow_few {m k : Nat} (hm : m ≤ 4) (hk : k ≤ 5) : m ^ k ≤ 1024 := Nat.le_trans (Nat.pow_le_pow_left hm k) (Nat.pow_le_pow_right (by decide) hk)
theorem rleast_any (D : Nat) (Ac : Option Addr) (cc : Nat) (Ab : Option Addr) (cb : Nat) (p : Prt) (Av : Option Addr) (cv : Nat) (l : List Vst) (w : World) (PB : PrtB D w Ac cc Ab cb p) (VB : RdB D w 4 Av l.length (vscs l)) (hD : D ≤ w.heap.size) (ha : askedE p l = 0) :
    Calls Tryz.prog 43 #[.agg (prtV Ac cc Ab cb p), .slice Av l.length cv] w (LeastPost w p l) := by
  obtain ⟨W, hW⟩ : ∃ W, W = w.alloc (.cells (prtV Ac cc Ab cb p) 51) := ⟨_, rfl⟩;obtain ⟨pb, hpb⟩ : ∃ b, b = w.heap.size := ⟨_, rfl⟩;have hh : W.heap[pb]? = some (.cells (prtV Ac cc Ab cb p) 51 (0, 0)) := by rw [hW, hpb]; exact heap_alloc_new _ _
  have b0 : Below w.heap.size w W := by rw [hW]; exact (Below.refl _ _).alloc (Nat.le_refl _) _
  obtain ⟨hck, hl5, hok⟩ := asked_parts ha;have hnb := (checkP_ok hck).nb;obtain ⟨V, hV⟩ : ∃ V, V = ordS l.length l.length [] := ⟨_, rfl⟩;have hVl : V.length ≤ 3125 := by
    rw [hV]; exact Nat.le_trans ordS_few (Nat.le_trans (Nat.pow_le_pow_left hl5 _) (Nat.pow_le_pow_right (by decide) hl5))
  have ko := orders_rec l.length hl5 l.length [] 0 none 0 W rfl (by omega) ⟨rfl, fun h => absurd h (by omega)⟩ (fun b off e => by cases e);rw [← hV] at ko;obtain ⟨m, hm⟩ : ∃ m, m = p.bts.length := ⟨_, rfl⟩;obtain ⟨n, hn⟩ : ∃ n, n = l.length := ⟨_, rfl⟩;rw [← hn] at ko hl5;rw [← hm] at hnb;have H := Lib.hid (And.intro b0 (And.intro (PB.below (b0.mono hD)) (And.intro (VB.below (b0.mono hD)) (And.intro hh (And.intro hok (And.intro hV (And.intro ko (And.intro hm hn))))))));rw [← hn];clear b0 PB VB hh ha hck hok hV ko hm hn
  go_enter Tryz.func43, Tryz.ntmps43
  go_upto_region 1 with fail
  rw [← hW, ← hpb];clear hW hpb;go_upto_region 2 with (go_at_call 72; refine H.out.2.2.2.2.2.2.1.mono ?_; rintro e w1 ⟨Ao, co, rows, rfl, r1, r2, r3, b1⟩; have hrl : V.length = rows.length := (by have := congrArg List.length r2; simpa using this.symm); rw [hrl] at r1 ⊢; have H1 := Lib.hid (And.intro r1 (And.intro r2 (And.intro r3 (And.intro b1 hrl)))); clear r1 r2 r3 b1 hrl)
  obtain ⟨c, hc⟩ : ∃ c : LsC, c = ⟨pb, Ac, cc, Ab, cb, p, Av, cv, l, Ao, co, rows⟩ := ⟨_, rfl⟩;have hE : LsE c w1.heap.size w1 := by
    have b1 := H1.out.2.2.2.1;have hD1 : D ≤ W.heap.size := by have := H.out.1.size; omega
    have hD2 : D ≤ w1.heap.size := by have := b1.size; omega
    rw [hc];refine ⟨(b1.block _ (hL_ H.out.2.2.2.1)).trans H.out.2.2.2.1, Nat.lt_of_lt_of_le (hL_ H.out.2.2.2.1) b1.size, (H.out.2.1.bts.below (b1.mono hD1)).mono hD2, (H.out.2.2.1.below (b1.mono hD1)).mono hD2, RdB.of H1.out.1 (Nat.le_refl _), fun r hr => RdB.of (H1.out.2.2.1 r hr).1.1 (Nat.le_refl _)⟩
  have hK : LsK c := by
    rw [hc];exact ⟨by have := H.out.2.2.2.2.2.2.2.2; show l.length ≤ 5; omega, H.out.2.2.2.2.1, by have := H.out.2.2.2.2.2.2.2.1; show 1 ≤ p.bts.length ∧ p.bts.length ≤ 4; omega, by rw [← H.out.2.2.2.2.2.1]; exact H1.out.2.1⟩
  have p1 : w1.cell? ⟨pb, 1, none⟩ = some (.slice Ab m cb) := by
    have := hE.port1;rw [hc] at this;rw [H.out.2.2.2.2.2.2.2.1]; exact this
  have zp : pb < w1.heap.size := by have := hE.pbD; rw [hc] at this; exact this
  have hrows : rows.length ≤ 3125 := by have := H1.out.2.2.2.2; omega
  have HE := Lib.hid (And.intro hE (And.intro hK hc));clear hE hK hc;go_wp2_with fail
  go_loopg [7, 8] n (fun g a i wr => ∃ k : Nat, g + k = n ∧ i = .int .i64 k ∧ a = .int .i64 ((m ^ k : Nat) : Int) ∧ w1 = wr)
  case atStart => exact ⟨0, rfl, rfl, rfl, rfl⟩
  case round =>
    obtain ⟨k, hk, rfl, rfl, rfl⟩ := hrel;by_cases hlt : k < n
    · have hy2 := pow_few hnb.2 (show k + 1 ≤ 5 by omega);obtain ⟨y, hy⟩ : ∃ y, y = m ^ k := ⟨_, rfl⟩;obtain ⟨z, hz⟩ : ∃ z, z = m ^ (k + 1) := ⟨_, rfl⟩;have hwr : wrap64 ((y : Int) * (m : Int)) = (z : Int) := by
        have e1 : (y : Int) * (m : Int) = (z : Int) := by rw [hz, hy, Nat.pow_succ]; simp
        rw [e1];exact IntWalk.wrap64_in _ (by omega)
      have HY := Lib.hid (And.intro hwr hz);rw [← hy];have hkI : (k : Int) < (n : Int) := by omega
      clear hwr hz hy hy2;go_wp2_with fail
      go_roundg (gk - 1);case measure => omega
      case rel => exact ⟨k + 1, by omega, by go_num, by rw [HY.out.1, HY.out.2], rfl⟩
    · obtain rfl : k = n := by omega
      have hyb := pow_few hnb.2 hl5;obtain ⟨ways, hways⟩ : ∃ y, y = m ^ k := ⟨_, rfl⟩;rw [← hways] at hyb ⊢;have HWY := Lib.hid hways;have hkI : ¬ (k : Int) < (k : Int) := by omega
      have hrI : (0 : Int) ≤ (rows.length : Int) := by omega
      clear hways p1 zp;go_wp2_with fail
      go_loopg [9, 10, 11] rows.length (fun g b f i wr => ∃ (j : Nat) (s : Bool × List Plc) (A : Option Addr) (nb cb : Nat) (qb : List Nat), g + j = rows.length ∧ i = .int .i64 j ∧ b = .slice A nb cb ∧ f = .bool s.1 ∧ nb = s.2.length ∧ s = (V.take j).foldl (lsRow p l) (false, []) ∧ Own w1.heap.size w1 [.own 56 2 A nb cb (plcs s.2) qb] wr ∧ (s.1 = true → PlSm l s.2))
      case atStart =>
        refine ⟨0, (false, []), none, 0, 0, [], rfl, rfl, rfl, rfl, rfl, rfl, ?_, fun h => by cases h⟩;have h := (Own.start w1).new (i := .own 56 2 none 0 0 [] []) (Below.refl _ _) (OwnS.nil _ _ _) (by simp [It.fp]);simpa using h
      case round =>
        obtain ⟨j, s, A, nb, cb', qb, hj, rfl, rfl, rfl, hnbs, hs, O, hS⟩ := hrel;by_cases hlj : j < rows.length
        · have hjI : (j : Int) < (rows.length : Int) := by omega
          have hjV : j < V.length := by have := H1.out.2.2.2.2; omega
          obtain ⟨σ, hσ⟩ : ∃ σ, σ = V[j] := ⟨_, rfl⟩;have hσ2 : (ordS l.length l.length [])[j]? = some σ := by rw [← H.out.2.2.2.2.2.1, hσ, List.getElem?_eq_getElem hjV]
          have hs2 : (V.take (j + 1)).foldl (lsRow p l) (false, []) = lsRow p l s σ := by rw [List.take_succ_eq_append_getElem hjV, List.foldl_append, ← hs, hσ]; rfl
          have HS := Lib.hid (And.intro hs2 (And.intro hσ2 (And.intro hnbs (And.intro O hS))));clear hs2 hσ2 hnbs O hS hs hσ;go_wp2_with fail
          go_loopw [9, 10, 12] (fun b f i wx => ∃ (x : Nat) (s' : Bool × List Plc) (A' : Option Addr) (nb' cb'' : Nat) (qb' : List Nat), x ≤ ways ∧ i = .int .i64 x ∧ b = .slice A' nb' cb'' ∧ f = .bool s'.1 ∧ nb' = s'.2.length ∧ s' = (List.range x).foldl (lsStep p l σ) s ∧ Own w1.heap.size w1 [.own 56 2 A' nb' cb'' (plcs s'.2) qb'] wx ∧ (s'.1 = true → PlSm l s'.2)) (fun b f i _ => ways - (RowKit.intOf i).toNat)
          case atStart => exact ⟨0, s, A, nb, cb', qb, by omega, rfl, rfl, rfl, HS.out.2.2.1, rfl, HS.out.2.2.2.1, HS.out.2.2.2.2⟩
          case round =>
            obtain ⟨x, s', A', nb', cb'', qb', hx, rfl, rfl, rfl, hnbs', hs', O', hS'⟩ := hrel;by_cases hlx : x < ways
            · have hE := HE.out.1;have hK := HE.out.2.1;rw [HE.out.2.2] at hE hK;refine least_w (c := ⟨pb, Ac, cc, Ab, cb, p, Av, cv, l, Ao, co, rows⟩) (hE.below (Nat.le_refl _) O'.bel) hK HS.out.2.1 H.out.2.2.2.2.2.2.2.2 H.out.2.2.2.2.2.2.2.1 hlx HWY.out hyb (by omega) hnbs' O' hS' ?_
              intros
              rename_i s2 A2 nb2 cb2 qb2 w' hst hn2 O2 hS2
              refine ⟨?_, by simp [RowKit.intOf]; omega⟩
              repeat apply Exists.intro
              refine ⟨?_, rfl⟩;exact ⟨x + 1, s2, A2, nb2, cb2, qb2, by omega, by go_num, rfl, rfl, hn2, by rw [List.range_succ, List.foldl_append, ← hs', hst]; rfl, O2, hS2⟩
            · obtain rfl : x = ways := by omega
              have hxI : ¬ (x : Int) < (x : Int) := by omega
              have HJ := Lib.hid (And.intro hnbs' (And.intro hs' (And.intro O' hS')));clear hnbs' hs' O' hS';go_wp2_with fail
              go_roundg (rows.length - (j + 1));case measure => omega
              case rel =>
                refine ⟨j + 1, s', A', nb', cb'', qb', by omega, by go_num, rfl, rfl, HJ.out.1, ?_, HJ.out.2.2.1, HJ.out.2.2.2⟩;rw [HS.out.1, HJ.out.2.1];unfold lsRow;rw [HWY.out, H.out.2.2.2.2.2.2.2.1, H.out.2.2.2.2.2.2.2.2]
        · obtain rfl : j = rows.length := by omega
          have hjI : ¬ (rows.length : Int) < (rows.length : Int) := by omega
          have HS := Lib.hid (And.intro hnbs (And.intro O hs));clear hnbs O hS hs;go_wp2_with fail
          go_ret2
          have e1 : s = leastR p l := by
            rw [HS.out.2.2, List.take_of_length_le (by rw [H1.out.2.2.2.2]; exact Nat.le_refl _), H.out.2.2.2.2.2.1]; rfl
          have hO := HS.out.2.1;have hn1 := HS.out.1;rw [e1] at hO hn1 ⊢;subst hn1;exact ⟨A, cb', rfl, (hO.get 0 rfl : OwnS _ _ _ _ _ _ _ _).rd, H.out.1.trans ((H1.out.2.2.2.1.trans (hO.bel.mono H1.out.2.2.2.1.size)).mono H.out.1.size)⟩
end Go.Proofs.YtalcinepeofmcaaGreat
