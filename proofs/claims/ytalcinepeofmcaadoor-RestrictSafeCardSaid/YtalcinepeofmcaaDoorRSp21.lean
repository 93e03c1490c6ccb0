/- RestrictSafe from the policy on (printed by wip/tools/safe.py) -/
import Derived.Test.YtalcinepeofmcaaDoorRSp20
import Derived.Test.YtalcinepeofmcaaDoorRSp8
set_option linter.unusedVariables false
set_option linter.unusedSimpArgs false
namespace Go.Proofs.YtalcinepeofmcaaDoor
open Go Go.RowKit Go.Lib Sp Hu
set_option linter.unusedVariables false
set_option linter.unusedSimpArgs false

set_option maxRecDepth 100000 in
set_option maxHeartbeats 4000000 in
theorem safe_t {Q0 : Exit → Act → World → Prop} {h : ShC} {w W0 wx : World} {cb spb : Nat} {x : Cel} {m cl lo hi : Int} (ok : shipE h.s = 0) (hx : celOk x = true) (R0 : ShR h.At h.Aw h.Ai h.s W0) (G0 : StrG W0) (bw : Below w.heap.size w W0) (hm : 0 ≤ m ∧ m ≤ 255) (elo : lo = x.b0 + 50 * x.d0) (ehi : hi = x.b1 + 50 * x.d1) (O : Own W0.heap.size W0 [.blk h.sb (.cells (shpV h.At h.ct h.Aw h.cw h.Ai h.ci h.s) 25), .blk cb (.cells (celA (safeC x)) 30), .blk spb (.cells #[.int .i64 lo, .int .i64 hi] 28)] wx) (hc : 1 ≤ cl ∧ cl ≤ 6) (hg : goodC m cl = true) {s0 s1 s2 s3 s4 s5 s6 s9 s10 s14 s15 s16 s17 s18 s19 s20 s21 s22 s23 s24 s25 s26 s27 s28 s29 s30 s31 s32 s33 s34 s35 s36 s37 s38 s39 s40 s41 s42 s43 s44 s45 s46 s47 s48 s49 s50 s51 s52 s53 s54 s55 s56 s57 s58 s59 s60 s61 s62 s63 s64 s65 s66 s67 s68 s69 s70 s71 s72 s73 s74 s75 s76 s77 s78 s79 s80 s81 s82 s83 s84 s85 s86 s87 s88 s89 s90 s91 s92 s93 s94 s95 s96 s97 s98 s99 s100 s101 s102 s103 s104 s105 s106 s107 s108 s109 s110 s111 s112 s113 s114 s115 s116 s117 s118 s119 s120 s121 s122 s123 s124 s125 s126 s127 s128 s129 s130 s131 s132 s133 s134 s135 s136 s137 s138 s139 s140 s141 s142 s143 s144 s145 s146 s147 s148 s149 s150 s151 s152 s153 s154 s155 s156 s157 s158 s159 s160 s161 s162 s163 s164 s165 s166 s167 s168 s169 s170 s171 s172 s173 s174 s175 s176 s177 s178 s179 s180 s181 s182 s183 s184 s185 s186 s187 : Value} (hQ0 : ∀ e1 a1 w1, bodyPost Tryd.prog Tryd.f3 (fun e w' => e = .returned (.bool true) ∧ Below w.heap.size w w') e1 a1 w1 → Q0 e1 a1 w1) :
    Code.wp Tryd.prog (restOf Tryd.f3 29) Q0 ⟨#[s0, s1, s2, s3, s4, s5, s6, .pointer (some ⟨h.sb, 0, none⟩), .pointer (some ⟨cb, 0, none⟩), s9, s10, .pointer (some ⟨spb, 0, none⟩), .int .i64 m, .int .i64 cl, s14, s15, s16, s17, s18, s19, s20, s21, s22, s23, s24, s25, s26, s27, s28, s29, s30, s31, s32, s33, s34, s35, s36, s37, s38, s39, s40, s41, s42, s43, s44, s45, s46, s47, s48, s49, s50, s51, s52, s53, s54, s55, s56, s57, s58, s59, s60, s61, s62, s63, s64, s65, s66, s67, s68, s69, s70, s71, s72, s73, s74, s75, s76, s77, s78, s79, s80, s81, s82, s83, s84, s85, s86, s87, s88, s89, s90, s91, s92, s93, s94, s95, s96, s97, s98, s99, s100, s101, s102, s103, s104, s105, s106, s107, s108, s109, s110, s111, s112, s113, s114, s115, s116, s117, s118, s119, s120, s121, s122, s123, s124, s125, s126, s127, s128, s129, s130, s131, s132, s133, s134, s135, s136, s137, s138, s139, s140, s141, s142, s143, s144, s145, s146, s147, s148, s149, s150, s151, s152, s153, s154, s155, s156, s157, s158, s159, s160, s161, s162, s163, s164, s165, s166, s167, s168, s169, s170, s171, s172, s173, s174, s175, s176, s177, s178, s179, s180, s181, s182, s183, s184, s185, s186, s187], []⟩ wx := by
  refine wp_mono ?_ hQ0
  clear hQ0
  conv => arg 2; whnf
  obtain ⟨⟨b0, b1, b2⟩, d0, d1, d2⟩ := safe_bds hx
  have hlh : 0 ≤ lo ∧ lo ≤ hi ∧ hi ≤ 2000 := by omega
  have hcls : 1 ≤ h.s.cls ∧ h.s.cls ≤ 6 := by
    rcases Decidable.em (within h.s.cls 1 6 = false) with q | q
    · unfold shipE at ok; rw [if_pos q] at ok; cases ok
    · rw [Bool.not_eq_false] at q; simpa [within] using q
  have hmn : (if 6 < cl then 6 else cl) = cl := if_neg (by omega)
  have hmn2 : (if cl < 6 then cl else 6) = cl := by split <;> omega
  have HO := Lib.hid (And.intro O (And.intro ok (And.intro hx (And.intro R0 (And.intro G0 (And.intro bw (And.intro elo ehi)))))))
  have HG := Lib.hid (And.intro hg (And.intro hlh hcls))
  have c7 := (cell_of_heap (O.heap 0 rfl) 0).trans rfl
  have z7 := heap_lt (O.heap 0 rfl)
  clear O ok hx R0 G0 bw elo ehi hg hlh hcls b0 b1 b2 d0 d1 d2
  go_upto_region 30 with fail
  obtain ⟨stb, hstb⟩ : ∃ b, b = wx.heap.size := ⟨_, rfl⟩
  obtain ⟨plb, hplb⟩ : ∃ b, b = wx.heap.size + 1 := ⟨_, rfl⟩
  obtain ⟨X, hX⟩ : ∃ X, X = (wx.alloc (.cells #[.int .i64 0, .int .i64 0, .int .i64 0, .int .i64 0, .int .i64 cl, .int .i64 0, .int .i64 1, .int .i64 0, .int .i64 6, .int .i64 500000, .int .i64 (m + 2), .int .i64 0] 48)).alloc (.cells #[.slice (some ⟨stb, 0, none⟩) 3 3, .int .i64 1, .int .i64 1, .int .i64 0, .int .i64 0] 51) := ⟨_, rfl⟩
  have OX : Own W0.heap.size W0 ([.blk h.sb (.cells (shpV h.At h.ct h.Aw h.cw h.Ai h.ci h.s) 25), .blk cb (.cells (celA (safeC x)) 30), .blk spb (.cells #[.int .i64 lo, .int .i64 hi] 28)] ++ [.blk stb (.cells #[.int .i64 0, .int .i64 0, .int .i64 0, .int .i64 0, .int .i64 cl, .int .i64 0, .int .i64 1, .int .i64 0, .int .i64 6, .int .i64 500000, .int .i64 (m + 2), .int .i64 0] 48)] ++ [.blk plb (.cells #[.slice (some ⟨stb, 0, none⟩) 3 3, .int .i64 1, .int .i64 1, .int .i64 0, .int .i64 0] 51)]) X := by
    have a1 := (HO.out.1.alloc (.cells #[.int .i64 0, .int .i64 0, .int .i64 0, .int .i64 0, .int .i64 cl, .int .i64 0, .int .i64 1, .int .i64 0, .int .i64 6, .int .i64 500000, .int .i64 (m + 2), .int .i64 0] 48)).alloc (.cells #[.slice (some ⟨stb, 0, none⟩) 3 3, .int .i64 1, .int .i64 1, .int .i64 0, .int .i64 0] 51)
    rw [World.size_alloc] at a1
    rw [hX, hplb]
    rw [hstb]
    simpa only [hstb] using a1
  rw [← hplb, ← hstb, ← hX]
  have c7' := (cell_of_heap (OX.heap 0 rfl) 0).trans rfl
  have z7' := heap_lt (OX.heap 0 rfl)
  have HX := Lib.hid OX
  clear c7 z7 OX hX hplb hstb
  go_upto_region 31 with fail
  obtain ⟨vb, hvb⟩ : ∃ b, b = X.heap.size := ⟨_, rfl⟩
  obtain ⟨X2, hX2⟩ : ∃ Y, Y = X.alloc (.cells #[.int .i64 h.s.cls, .int .i64 0, .bool false] 53) := ⟨_, rfl⟩
  have OX2 : Own W0.heap.size W0 ([.blk h.sb (.cells (shpV h.At h.ct h.Aw h.cw h.Ai h.ci h.s) 25), .blk cb (.cells (celA (safeC x)) 30), .blk spb (.cells #[.int .i64 lo, .int .i64 hi] 28)] ++ [.blk stb (.cells #[.int .i64 0, .int .i64 0, .int .i64 0, .int .i64 0, .int .i64 cl, .int .i64 0, .int .i64 1, .int .i64 0, .int .i64 6, .int .i64 500000, .int .i64 (m + 2), .int .i64 0] 48)] ++ [.blk plb (.cells #[.slice (some ⟨stb, 0, none⟩) 3 3, .int .i64 1, .int .i64 1, .int .i64 0, .int .i64 0] 51)] ++ [.blk vb (.cells #[.int .i64 h.s.cls, .int .i64 0, .bool false] 53)]) X2 := by
    rw [hX2, hvb]; exact HX.out.alloc _
  rw [← hX2, ← hvb]
  have OX3 := OX2.alloc (.cells #[.int .i64 lo, .int .i64 hi] 28)
  obtain ⟨spn, hspn⟩ : ∃ b, b = X2.heap.size := ⟨_, rfl⟩
  obtain ⟨X3, hX3⟩ : ∃ Y, Y = X2.alloc (.cells #[.int .i64 lo, .int .i64 hi] 28) := ⟨_, rfl⟩
  rw [← hX3, ← hspn] at OX3
  have hst := OX3.heap 3 rfl
  have hsp := OX3.heap 6 rfl
  have hpol : PolV X3 (some ⟨stb, 0, none⟩) 3 (safeP cl m) := by
    refine ⟨Nat.le_refl _, by decide, rfl, fun _ => ⟨stb, 0, rfl, heap_lt hst, fun j u hu => ?_⟩⟩
    rw [Nat.zero_add]
    exact (cell_of_heap hst j).trans (by rw [← hu]; simp [safeP, stcs, stc])
  have hspr : Rd X3 2 (some ⟨spn, 0, none⟩) 1 (spcs [(lo, hi)]) := by
    refine ⟨rfl, fun _ => ⟨spn, 0, rfl, heap_lt hsp, fun j u hu => ?_⟩⟩
    rw [Nat.zero_add]
    exact (cell_of_heap hsp j).trans (by rw [← hu]; simp [spcs, spc])
  have ks := Sure_any (some ⟨stb, 0, none⟩) 3 (safeP cl m) (some ⟨spn, 0, none⟩) 1 [(lo, hi)] ⟨h.s.cls, 0, false⟩ 0 X3 hpol hspr (by simp)
  unfold SurePost at ks
  rw [safe_sureE hc hm HG.out.2.1 HG.out.2.2] at ks
  obtain ⟨su, hsu⟩ : ∃ b, b = sureB (safeP cl m) [(lo, hi)] ⟨h.s.cls, 0, false⟩ 0 := ⟨_, rfl⟩
  obtain ⟨pe, hpe⟩ : ∃ b, b = perhB (safeP cl m) [(lo, hi)] ⟨h.s.cls, 0, false⟩ 0 := ⟨_, rfl⟩
  rw [← hsu, ← hpe] at ks
  have KS : Hid (Calls Tryd.prog 11 #[.agg #[.slice (some ⟨stb, 0, none⟩) 3 3, .int .i64 1, .int .i64 1, .int .i64 0, .int .i64 0], .slice (some ⟨spn, 0, none⟩) 1 1, .agg #[.int .i64 h.s.cls, .int .i64 0, .bool false], .int .i64 0] X3 fun e w' => e = .returned (.tuple #[.bool su, .bool pe, .int .i64 0]) ∧ Below X3.heap.size X3 w') := Lib.hid ks
  have HX3 := Lib.hid (And.intro OX3 hsu)
  have HE3 := Lib.hid (And.intro hX3 hspn)
  have r5 := OX2.heap 5 rfl
  have r4 := OX2.heap 4 rfl
  have r2 := OX2.heap 2 rfl
  have p0_ := (cell_of_heap r4 0).trans rfl
  have p1_ := (cell_of_heap r4 1).trans rfl
  have p2_ := (cell_of_heap r4 2).trans rfl
  have p3_ := (cell_of_heap r4 3).trans rfl
  have p4_ := (cell_of_heap r4 4).trans rfl
  have v0_ := (cell_of_heap r5 0).trans rfl
  have v1_ := (cell_of_heap r5 1).trans rfl
  have v2_ := (cell_of_heap r5 2).trans rfl
  have n0_ := (cell_of_heap r2 0).trans rfl
  have n1_ := (cell_of_heap r2 1).trans rfl
  have zr4 := heap_lt r4
  have zr5 := heap_lt r5
  have zr2 := heap_lt r2
  clear OX2 OX3 hst hsp hpol hspr ks hsu hpe r5 r4 r2 hX2 hvb hX3 hspn c7' z7'
  go_upto_region 34 with (go_at_call 11; rw [← HE3.out.1, ← HE3.out.2]; refine KS.out.mono ?_; rintro e w4 ⟨rfl, b4⟩; have H4 := Lib.hid (HX3.out.1.below b4); clear b4 p0_ p1_ p2_ p3_ p4_ v0_ v1_ v2_ n0_ n1_ zr4 zr5 zr2)
  have n0_ := (cell_of_heap (H4.out.heap 2 rfl) 0).trans rfl
  have n1_ := (cell_of_heap (H4.out.heap 2 rfl) 1).trans rfl
  have zr2 := heap_lt (H4.out.heap 2 rfl)
  go_cut [142] from 131 to 142 (fun bv wy => bv = .bool (su && (decide (1 ≤ lo) && decide (hi ≤ m))) ∧ wy = w4)
  case first =>
    cases su
    · go_wp2_with fail
      go_meet
      exact ⟨rfl, rfl⟩
    · by_cases h1 : 1 ≤ lo
      · by_cases h2 : hi ≤ m
        · go_wp2_with fail
          go_meet
          exact ⟨by first | (simp [h1, h2]; done) | (simp; omega), rfl⟩
        · go_wp2_with fail
          go_meet
          exact ⟨by first | (simp [h1, h2]; done) | (simp; omega), rfl⟩
      · go_wp2_with fail
        go_meet
        exact ⟨by first | (simp [h1]; done) | (simp; omega), rfl⟩
  case rest =>
    obtain ⟨rfl, hw⟩ := hcut
    have hw2 := hw.symm
    subst hw2
    obtain ⟨z, hz⟩ : ∃ z, z = (su && (decide (1 ≤ lo) && decide (hi ≤ m))) := ⟨_, rfl⟩
    rw [← hz]
    clear n0_ n1_ zr2
    obtain ⟨O0, ok, hx, R0, G0, bw, elo, ehi⟩ := HO.out
    have kb := fun (W : World) (O : Own W0.heap.size W0 [.blk h.sb (.cells (shpV h.At h.ct h.Aw h.cw h.Ai h.ci h.s) 25), .blk cb (.cells (celA (safeC x)) 30)] W) => beyond_any h.At h.ct h.Aw h.cw h.Ai h.ci h.s (safeC x) 10 false W (R0.below O.bel) ok (safeC_ok hx) (by decide) (G0.below O.bel)
    have O4 : Own W0.heap.size W0 [.blk h.sb (.cells (shpV h.At h.ct h.Aw h.cw h.Ai h.ci h.s) 25), .blk cb (.cells (celA (safeC x)) 30), .blk spb (.cells #[.int .i64 lo, .int .i64 hi] 28)] w4 := H4.out.take 3
    have kb4 := kb w4 (O4.take 2)
    have hzb : z = true → (endsL (safeC x)).any (beyI h.s 10 false) = false := fun hzt => by
      rw [hzt] at hz
      have h3 := hz.symm
      simp only [Bool.and_eq_true, decide_eq_true_eq] at h3
      have hcs := safe_sure hc hm HG.out.2.1 HG.out.2.2 h3.2.1 h3.2.2 (by rw [← HX3.out.2]; exact h3.1)
      exact safe_bey hx hc.1 hcs HG.out.2.2.2 HG.out.1 (by omega)
    have HB := Lib.hid (And.intro kb4 (And.intro hzb O4))
    clear O0 ok hx R0 G0 bw elo ehi kb O4 kb4 hzb hz
    go_upto_if 142 with fail
    go_cut [6] from 143 to 154 (fun rv wy => Own W0.heap.size W0 [.blk h.sb (.cells (shpV h.At h.ct h.Aw h.cw h.Ai h.ci h.s) 25), .blk cb (.cells (celA (safeC x)) 30), .blk spb (.cells #[.int .i64 lo, .int .i64 hi] 28)] wy)
    case first =>
      cases z
      · go_wp2_with fail
        go_meet
        exact HB.out.2.2
      · have kb4 := HB.out.1
        rw [HB.out.2.1 rfl] at kb4
        obtain ⟨z2, hz2⟩ : ∃ z, z = (endsL (safeC x)).all (beyI h.s 10 false) := ⟨_, rfl⟩
        rw [← hz2] at kb4
        have KB := Lib.hid kb4
        have s_ := HB.out.2.2.heap 0 rfl
        have c_ := HB.out.2.2.heap 1 rfl
        have sv0 : w4.cell? ⟨h.sb, 0, none⟩ = some _ := (cell_of_heap s_ 0).trans rfl
        have sv1 : w4.cell? ⟨h.sb, 1, none⟩ = some _ := (cell_of_heap s_ 1).trans rfl
        have sv2 : w4.cell? ⟨h.sb, 2, none⟩ = some _ := (cell_of_heap s_ 2).trans rfl
        have sv3 : w4.cell? ⟨h.sb, 3, none⟩ = some _ := (cell_of_heap s_ 3).trans rfl
        have sv4 : w4.cell? ⟨h.sb, 4, none⟩ = some _ := (cell_of_heap s_ 4).trans rfl
        have sv5 : w4.cell? ⟨h.sb, 5, none⟩ = some _ := (cell_of_heap s_ 5).trans rfl
        have sv6 : w4.cell? ⟨h.sb, 6, none⟩ = some _ := (cell_of_heap s_ 6).trans rfl
        have sv7 : w4.cell? ⟨h.sb, 7, none⟩ = some _ := (cell_of_heap s_ 7).trans rfl
        have sv8 : w4.cell? ⟨h.sb, 8, none⟩ = some _ := (cell_of_heap s_ 8).trans rfl
        have sv9 : w4.cell? ⟨h.sb, 9, none⟩ = some _ := (cell_of_heap s_ 9).trans rfl
        have sv10 : w4.cell? ⟨h.sb, 10, none⟩ = some _ := (cell_of_heap s_ 10).trans rfl
        have kv0 : w4.cell? ⟨cb, 0, none⟩ = some _ := (cell_of_heap c_ 0).trans rfl
        have kv1 : w4.cell? ⟨cb, 1, none⟩ = some _ := (cell_of_heap c_ 1).trans rfl
        have kv2 : w4.cell? ⟨cb, 2, none⟩ = some _ := (cell_of_heap c_ 2).trans rfl
        have kv3 : w4.cell? ⟨cb, 3, none⟩ = some _ := (cell_of_heap c_ 3).trans rfl
        have kv4 : w4.cell? ⟨cb, 4, none⟩ = some _ := (cell_of_heap c_ 4).trans rfl
        have kv5 : w4.cell? ⟨cb, 5, none⟩ = some _ := (cell_of_heap c_ 5).trans rfl
        have kv6 : w4.cell? ⟨cb, 6, none⟩ = some _ := (cell_of_heap c_ 6).trans rfl
        have kv7 : w4.cell? ⟨cb, 7, none⟩ = some _ := (cell_of_heap c_ 7).trans rfl
        have zs := heap_lt s_
        have zc := heap_lt c_
        clear s_ c_
        clear kb4 hz2
        go_wp2_with (go_at_call 8; refine KB.out.mono ?_; rintro e w5 ⟨rfl, b5⟩; have H5 := Lib.hid (HB.out.2.2.below b5); clear b5 sv0 sv1 sv2 sv3 sv4 sv5 sv6 sv7 sv8 sv9 sv10 kv0 kv1 kv2 kv3 kv4 kv5 kv6 kv7 zs zc)
        go_meet
        exact H5.out
    case rest =>
      obtain ⟨wz, rfl, Oz⟩ : ∃ wz, wz = _ ∧ Own W0.heap.size W0 [.blk h.sb (.cells (shpV h.At h.ct h.Aw h.cw h.Ai h.ci h.s) 25), .blk cb (.cells (celA (safeC x)) 30), .blk spb (.cells #[.int .i64 lo, .int .i64 hi] 28)] wz := ⟨_, rfl, hcut⟩
      obtain ⟨O0, ok, hx, R0, G0, bw, elo, ehi⟩ := HO.out
      apply_assumption
      refine safe_u (cl := cl) ok hx R0 G0 bw hm elo ehi Oz ?_
      intro _ _ _ h
      exact h
end Go.Proofs.YtalcinepeofmcaaDoor
/- Numbers that are drawn, and a struct that is made of them, in a region that draws its order. -/
namespace Go.Proofs.YtalcinepeofmcaaDoor
open Go Go.RowKit Sp

def DsW (ib lb k0 : Nat) (A0 : Option Addr) (c0 : Nat) (l0 : List Int) (opA opS : Nat) (cnt : (Nat → Bool) → Nat) (zero val : Array Value) (t : TypeId) (W0 : World) (s : Nat) (l : Nat → Bool) (w : World) : Prop :=
  Keep [ib] W0 w ∧ DrawSt w ib lb A0 c0 l0 (k0 + cnt l) ∧ (l opA = true → w.heap[s]? = some (.cells (if l opS then val else zero) t (0, 0)) ∧ W0.heap.size ≤ s)
section
variable {ib lb k0 : Nat} {A0 : Option Addr} {c0 : Nat} {l0 : List Int} {opA opS : Nat} {cnt : (Nat → Bool) → Nat} {zero val : Array Value} {t : TypeId} {W0 w w' : World} {s : Nat} {l : Nat → Bool}
theorem DsW.start (h : DrawSt W0 ib lb A0 c0 l0 k0) (hc : cnt (fun _ => false) = 0) : DsW ib lb k0 A0 c0 l0 opA opS cnt zero val t W0 s (fun _ => false) W0.drew :=
  ⟨(Keep.refl _ _).drew, by rw [hc]; exact h.keep (S := []) ((Keep.refl _ _).drew) (by simp) (by simp) (by simp), fun h => by cases h⟩
theorem DsW.call (H : DsW ib lb k0 A0 c0 l0 opA opS cnt zero val t W0 s l w) (hz : ib < W0.heap.size) (i : Nat) (hi : i ≠ opA ∧ i ≠ opS) (hd : DrawSt w' ib lb A0 c0 l0 (k0 + cnt (upd l i))) (hk : Keep [ib] w w') : DsW ib lb k0 A0 c0 l0 opA opS cnt zero val t W0 s (upd l i) w' := by
  refine ⟨H.1.trans hk (fun x hx => .inl hx), hd, ?_⟩
  rw [upd_ne hi.1, upd_ne hi.2]
  exact fun e => ⟨(hk.block _ (heap_lt (H.2.2 e).1) (by have := (H.2.2 e).2; simp; omega)).trans (H.2.2 e).1, (H.2.2 e).2⟩
theorem DsW.other (H : DsW ib lb k0 A0 c0 l0 opA opS cnt zero val t W0 s l w) (i : Nat) (hi : i ≠ opA ∧ i ≠ opS) (hc : cnt (upd l i) = cnt l) : DsW ib lb k0 A0 c0 l0 opA opS cnt zero val t W0 s (upd l i) w := by
  refine ⟨H.1, by rw [hc]; exact H.2.1, ?_⟩
  rw [upd_ne hi.1, upd_ne hi.2]
  exact H.2.2
theorem DsW.next (H : DsW ib lb k0 A0 c0 l0 opA opS cnt zero val t W0 s l w) (hb : Bytes l0) (hl : l0.length ≤ 9223372036854775806) (hne : ib ≠ lb) (hap : 0 < l0.length → ∀ b off, A0 = some ⟨b, off, none⟩ → b ≠ ib) (m : Int) (hm : 0 < m ∧ m ≤ 1000) :
    Calls Tryd.prog 45 #[.int .i64 m, .pointer (some ⟨ib, 0, none⟩), .pointer (some ⟨lb, 0, none⟩)] w (NextPost w ib lb A0 c0 l0 (k0 + cnt l) m) :=
  next_any ib lb A0 c0 l0 (k0 + cnt l) m w H.2.1 hb hl hne hap hm
theorem DsW.alloc (H : DsW ib lb k0 A0 c0 l0 opA opS cnt zero val t W0 s l w) (hS : l opS = false) (hc : cnt (upd l opA) = cnt l) (hn : opA ≠ opS) : DsW ib lb k0 A0 c0 l0 opA opS cnt zero val t W0 w.heap.size (upd l opA) (w.alloc (.cells zero t)) := by
  refine ⟨H.1.alloc _, by rw [hc]; exact H.2.1.keep (S := []) ((Keep.refl _ _).alloc _) (by simp) (by simp) (by simp), fun _ => ⟨?_, H.1.size⟩⟩
  rw [upd_ne hn, hS, if_neg (by simp)]
  exact heap_alloc_new w _
theorem DsW.store (H : DsW ib lb k0 A0 c0 l0 opA opS cnt zero val t W0 s l w) (hz : ib < W0.heap.size) (hA : l opA = true) (hS : l opS = false) (hc : cnt (upd l opS) = cnt l) (hk : Keep [s] w w') (hh : w'.heap[s]? = some (.cells val t (0, 0))) (hn : opA ≠ opS)
    (hlb : lb < W0.heap.size := by omega) (hap : 0 < l0.length → ∀ b off, A0 = some ⟨b, off, none⟩ → b < W0.heap.size := by assumption) : DsW ib lb k0 A0 c0 l0 opA opS cnt zero val t W0 s (upd l opS) w' := by
  have hs := (H.2.2 hA).2
  refine ⟨H.1.trans hk (fun x hx => .inr (by rw [List.mem_singleton.1 hx]; exact hs)), by rw [hc]; exact H.2.1.keep hk (by simp; omega) (by simp; omega) (fun h0 b off e => by have := hap h0 b off e; simp; omega), fun _ => ⟨?_, hs⟩⟩
  rw [upd_eq, if_pos rfl]
  exact hh
end
end Go.Proofs.YtalcinepeofmcaaDoor
