/- A round of RestrictNeeded's loop over three vessels. -/
import Derived.Test.YtfmhlnfcbbpfeaaRound
import Derived.Test.YtfmhlnfcbbpfeaaLawKit
import Derived.Test.YtfmhlnfcbbpfeaaNeededP
import Derived.IntWalk
namespace Go.Proofs.Ytfmhlnfcbbpfeaa
open Go Go.RowKit Sp
set_option linter.unusedVariables false

set_option maxRecDepth 100000 in
set_option maxHeartbeats 4000000 in
theorem needed1 {w U wr : World} {pb : Nat} {As : Option Addr} {cs : Nat} {p : Pol} {Ad : Option Addr} {cd : Nat} {days : List Int} {ub k a z : Nat} {nc nt : Int}
    (hl90 : days.length ≤ 90) (hst : startS p days = 0) (haz : a ≤ z) (hzn : z < days.length) (hnv : (⟨nc, nt, false⟩ : Ves) = needV p days a z) (r1 : 0 ≤ nc) (r2 : nc ≤ 6) (r3 : 0 ≤ nt) (r4 : nt ≤ 500000) (hlt : k < 3)
    (hU : PD w U pb As cs p Ad days) (huh : U.heap[ub]? = some (.cells #[.int .i64 nc, .int .i64 nt, .bool false, .int .i64 (nc - 1), .int .i64 nt, .bool false, .int .i64 nc, .int .i64 (nt - 1), .bool false] 33 (0, 0))) (hb : Below U.heap.size U wr) {s0 s1 s2 s3 s4 s5 s6 s7 s8 s9 s10 s11 s12 s15 s16 s19 s20 s22 s23 s24 s25 s26 s27 s28 s29 s30 s31 s32 s33 s34 s35 s36 s37 s38 s39 s40 s41 s42 s43 s44 s45 s46 s47 s48 s49 s50 s51 s52 s53 s54 s55 s56 s57 s58 s59 s60 s61 s62 s63 s64 s65 s66 s67 s68 s69 s70 s71 s72 s73 s74 s75 s76 s77 s78 s79 s80 s81 s82 s83 s84 s85 s86 s87 s88 s89 s90 s91 s92 s93 s94 s95 s96 s97 s98 s99 s100 s101 s102 s106 s107 s108 s109 s110 s111 s112 s113 s114 s115 s116 s117 s118 s119 s120 s121 s122 s123 s124 s125 s126 s127 s128 s129 s130 s131 s132 s133 s134 s135 s136 s137 s138 s139 s140 s141 s142 s143 s144 s145 s146 s147 s148 s149 s150 s151 s152 s153 s154 s155 s156 s157 s158 s159 s160 s161 s162 s163 s164 s165 s166 s167 s168 s169 s170 s171 s172 s173 s174 s175 s176 s177 s178 s179 s180 s181 s182 s183 s184 s185 s186 s187 s188 s189 s190 s191 s192 s193 s194 s195 s196 s197 s198 s199 s200 s201 s202 s203 s204 s205 s206 s207 s208 s209 s210 s211 s212 s213 s214 s215 s216 s217 s218 s219 s220 s221 s222 s223 s224 s225 s226 s227 s228 s229 s230 s231 s232 s233 s234 s235 s236 s237 s238 s239 s240 s241 s242 s243 s244 s245 s246 s247 s248 s249 s250 s251 s252 s253 s254 s255 s256 s257 s258 s259 s260 s261 s262 s263 s264 s265 s266 s267 s268 s269 s270 s271 s272 s273 s274 s275 s276 s277 s278 s279 s280 s281 s282 s283 s284 s285 s286 s287 s288 s289 s290 s291 s292 s293 s294 s295 s296 s297 s298 s299 s300 s301 s302 s303 s304 s305 s306 s307 s308 s309 s310 s311 s312 s313 : Value} {Q0 : Exit → Act → World → Prop} {Inv : Act → World → Prop}
    (hInv : ∀ (t12 t22 t23 t24 t25 t26 t27 t106 t107 t108 t109 t110 t111 t112 t113 t114 t115 t116 t117 t118 t119 t120 t121 t122 t123 t124 t125 t126 t127 t128 t129 t130 t131 t132 t133 t134 t135 t136 t137 t138 t139 t140 t141 t142 : Value)  (w' : World), Below U.heap.size U w' → Inv ⟨#[s0, s1, s2, s3, s4, s5, s6, s7, s8, s9, s10, s11, t12, .pointer (some ⟨pb, 0, none⟩), .slice Ad days.length cd, s15, s16, .int .i64 a, .int .i64 z, s19, s20, .slice (some ⟨ub, 0, none⟩) 3 3, t22, t23, t24, t25, t26, t27, s28, s29, s30, s31, s32, s33, s34, s35, s36, s37, s38, s39, s40, s41, s42, s43, s44, s45, s46, s47, s48, s49, s50, s51, s52, s53, s54, s55, s56, s57, s58, s59, s60, s61, s62, s63, s64, s65, s66, s67, s68, s69, s70, s71, s72, s73, s74, s75, s76, s77, s78, s79, s80, s81, s82, s83, s84, s85, s86, s87, s88, s89, s90, s91, s92, s93, s94, s95, s96, s97, s98, s99, s100, s101, s102, .slice (some ⟨ub, 0, none⟩) 3 3, .int .i64 3, .int .i64 ((k : Int) + 1), t106, t107, t108, t109, t110, t111, t112, t113, t114, t115, t116, t117, t118, t119, t120, t121, t122, t123, t124, t125, t126, t127, t128, t129, t130, t131, t132, t133, t134, t135, t136, t137, t138, t139, t140, t141, t142, s143, s144, s145, s146, s147, s148, s149, s150, s151, s152, s153, s154, s155, s156, s157, s158, s159, s160, s161, s162, s163, s164, s165, s166, s167, s168, s169, s170, s171, s172, s173, s174, s175, s176, s177, s178, s179, s180, s181, s182, s183, s184, s185, s186, s187, s188, s189, s190, s191, s192, s193, s194, s195, s196, s197, s198, s199, s200, s201, s202, s203, s204, s205, s206, s207, s208, s209, s210, s211, s212, s213, s214, s215, s216, s217, s218, s219, s220, s221, s222, s223, s224, s225, s226, s227, s228, s229, s230, s231, s232, s233, s234, s235, s236, s237, s238, s239, s240, s241, s242, s243, s244, s245, s246, s247, s248, s249, s250, s251, s252, s253, s254, s255, s256, s257, s258, s259, s260, s261, s262, s263, s264, s265, s266, s267, s268, s269, s270, s271, s272, s273, s274, s275, s276, s277, s278, s279, s280, s281, s282, s283, s284, s285, s286, s287, s288, s289, s290, s291, s292, s293, s294, s295, s296, s297, s298, s299, s300, s301, s302, s303, s304, s305, s306, s307, s308, s309, s310, s311, s312, s313], []⟩ w') :
    Code.wp Try.prog (loopBody Try.f7 0) (Exit.then Inv Q0) ⟨#[s0, s1, s2, s3, s4, s5, s6, s7, s8, s9, s10, s11, s12, .pointer (some ⟨pb, 0, none⟩), .slice Ad days.length cd, s15, s16, .int .i64 a, .int .i64 z, s19, s20, .slice (some ⟨ub, 0, none⟩) 3 3, s22, s23, s24, s25, s26, s27, s28, s29, s30, s31, s32, s33, s34, s35, s36, s37, s38, s39, s40, s41, s42, s43, s44, s45, s46, s47, s48, s49, s50, s51, s52, s53, s54, s55, s56, s57, s58, s59, s60, s61, s62, s63, s64, s65, s66, s67, s68, s69, s70, s71, s72, s73, s74, s75, s76, s77, s78, s79, s80, s81, s82, s83, s84, s85, s86, s87, s88, s89, s90, s91, s92, s93, s94, s95, s96, s97, s98, s99, s100, s101, s102, .slice (some ⟨ub, 0, none⟩) 3 3, .int .i64 3, .int .i64 k, s106, s107, s108, s109, s110, s111, s112, s113, s114, s115, s116, s117, s118, s119, s120, s121, s122, s123, s124, s125, s126, s127, s128, s129, s130, s131, s132, s133, s134, s135, s136, s137, s138, s139, s140, s141, s142, s143, s144, s145, s146, s147, s148, s149, s150, s151, s152, s153, s154, s155, s156, s157, s158, s159, s160, s161, s162, s163, s164, s165, s166, s167, s168, s169, s170, s171, s172, s173, s174, s175, s176, s177, s178, s179, s180, s181, s182, s183, s184, s185, s186, s187, s188, s189, s190, s191, s192, s193, s194, s195, s196, s197, s198, s199, s200, s201, s202, s203, s204, s205, s206, s207, s208, s209, s210, s211, s212, s213, s214, s215, s216, s217, s218, s219, s220, s221, s222, s223, s224, s225, s226, s227, s228, s229, s230, s231, s232, s233, s234, s235, s236, s237, s238, s239, s240, s241, s242, s243, s244, s245, s246, s247, s248, s249, s250, s251, s252, s253, s254, s255, s256, s257, s258, s259, s260, s261, s262, s263, s264, s265, s266, s267, s268, s269, s270, s271, s272, s273, s274, s275, s276, s277, s278, s279, s280, s281, s282, s283, s284, s285, s286, s287, s288, s289, s290, s291, s292, s293, s294, s295, s296, s297, s298, s299, s300, s301, s302, s303, s304, s305, s306, s307, s308, s309, s310, s311, s312, s313], []⟩ wr := by
  conv => arg 2; whnf
  have HU := Lib.hid (And.intro hU huh)
  have HB := Lib.hid hb
  have HI := Lib.hid hInv
  clear hU huh hb hInv
  obtain ⟨x, y, hxy, hcells, hskip, hmay⟩ : ∃ x y : Int, (x ≤ 6 ∧ y ≤ 500000 ∧ -1 ≤ x ∧ -1 ≤ y) ∧ (∀ wx, Below U.heap.size U wx → wx.cell? ⟨ub, 0 + k * 3, none⟩ = some (.int .i64 x) ∧ wx.cell? ⟨ub, 0 + k * 3 + 1, none⟩ = some (.int .i64 y) ∧ wx.cell? ⟨ub, 0 + k * 3 + 2, none⟩ = some (.bool false)) ∧
      True ∧ allB (passesS p days ⟨x, y, false⟩) a (z + 1 - a) = ((k : Int) == 0) := by
    have hc : ∀ wx, Below U.heap.size U wx → wx.heap[ub]? = some (.cells #[.int .i64 nc, .int .i64 nt, .bool false, .int .i64 (nc - 1), .int .i64 nt, .bool false, .int .i64 nc, .int .i64 (nt - 1), .bool false] 33 (0, 0)) := fun wx hx => (hx.block _ (heap_lt HU.out.2)).trans HU.out.2
    have hnv := hnv
    obtain rfl | rfl | rfl : k = 0 ∨ k = 1 ∨ k = 2 := by omega
    · refine ⟨nc, nt, by omega, fun wx hx => ⟨(cell_of_heap (hc wx hx) 0).trans rfl, (cell_of_heap (hc wx hx) 1).trans rfl, (cell_of_heap (hc wx hx) 2).trans rfl⟩, trivial, ?_⟩
      have := need_all (p := p) hst haz hzn
      rw [← hnv] at this
      rw [this]; rfl
    · refine ⟨nc - 1, nt, by omega, fun wx hx => ⟨(cell_of_heap (hc wx hx) 3).trans rfl, (cell_of_heap (hc wx hx) 4).trans rfl, (cell_of_heap (hc wx hx) 5).trans rfl⟩, trivial, ?_⟩
      have := need_less (p := p) hst haz hzn (v := ⟨nc - 1, nt, false⟩) rfl (by rw [← hnv]; exact .inl (by simp only; omega))
      rw [this]; rfl
    · refine ⟨nc, nt - 1, by omega, fun wx hx => ⟨(cell_of_heap (hc wx hx) 6).trans rfl, (cell_of_heap (hc wx hx) 7).trans rfl, (cell_of_heap (hc wx hx) 8).trans rfl⟩, trivial, ?_⟩
      have := need_less (p := p) hst haz hzn (v := ⟨nc, nt - 1, false⟩) rfl (by rw [← hnv]; exact .inr (by simp only; omega))
      rw [this]; rfl
  obtain ⟨s0, s1, s2⟩ := hcells wr HB.out
  rw [Nat.zero_add] at s0 s1 s2
  obtain ⟨x1, x2, x3, x4⟩ := hxy
  have HM := Lib.hid hmay
  obtain ⟨Y, hY⟩ : ∃ Y, Y = wr.alloc (.cells #[.int .i64 x, .int .i64 y, .bool false] 33) := ⟨_, rfl⟩
  obtain ⟨yb, hyb⟩ : ∃ yb, yb = wr.heap.size := ⟨_, rfl⟩
  have bY : Below wr.heap.size wr Y := by rw [hY]; exact (Below.refl _ _).alloc (Nat.le_refl _) _
  have hyh : Y.heap[yb]? = some (.cells #[.int .i64 x, .int .i64 y, .bool false] 33 (0, 0)) := by rw [hY, hyb]; exact heap_alloc_new _ _
  have y0 := (cell_of_heap hyh 0).trans rfl
  have y1 := (cell_of_heap hyh 1).trans rfl
  have y2 := (cell_of_heap hyh 2).trans rfl
  have yz := heap_lt hyh
  have HY := Lib.hid (And.intro (HB.out.trans (bY.mono HB.out.size)) hyh)
  clear hcells hskip hmay bY hyh
  go_upto_region 15 with fail
  rw [← hY, ← hyb]
  clear hY hyb s0 s1 s2
  by_cases hx0 : x < 0
  · go_wp2_with fail
    exact HI.out _ _ _ _ _ _ _ _ _ _ _ _ _ _ _ _ _ _ _ _ _ _ _ _ _ _ _ _ _ _ _ _ _ _ _ _ _ _ _ _ _ _ _ _ _ HY.out.1
  by_cases hy0 : y < 0
  · go_wp2_with fail
    exact HI.out _ _ _ _ _ _ _ _ _ _ _ _ _ _ _ _ _ _ _ _ _ _ _ _ _ _ _ _ _ _ _ _ _ _ _ _ _ _ _ _ _ _ _ _ _ HY.out.1
  have hvr : vright ⟨x, y, false⟩ = true := by simp [vright, within]; omega
  have HVR := Lib.hid hvr
  clear hvr
  have FY : ∀ X, Below Y.heap.size Y X → PD w X pb As cs p Ad days ∧ X.cell? ⟨yb, 0, none⟩ = some (.int .i64 x) ∧ X.cell? ⟨yb, 1, none⟩ = some (.int .i64 y) ∧ X.cell? ⟨yb, 2, none⟩ = some (.bool false) := by
    intro X hX
    have h5 := (hX.block _ (heap_lt HY.out.2)).trans HY.out.2
    exact ⟨(HU.out.1.below HY.out.1).below hX, (cell_of_heap h5 0).trans rfl, (cell_of_heap h5 1).trans rfl, (cell_of_heap h5 2).trans rfl⟩
  have HF := Lib.hid FY
  clear FY
  go_wp2_with fail
  clear y0 y1 y2 yz
  obtain ⟨wo, rfl⟩ : ∃ wo : World, wo = wr := ⟨_, rfl⟩
  go_loopw [24, 25] (fun m d wr => ∃ j : Nat, j ≤ z + 1 - a ∧ m = .bool (allB (passesS p days ⟨x, y, false⟩) a j) ∧ d = .int .i64 ((a : Int) + j) ∧ Below Y.heap.size Y wr) (fun _ d _ => ((z : Int) + 1 - intOf d).toNat)
  case atStart => exact ⟨0, Nat.zero_le _, rfl, by simp, Below.refl _ _⟩
  case round =>
    obtain ⟨j, hj, rfl, rfl, hb⟩ := hrel
    have HB2 := Lib.hid hb
    clear hb
    obtain ⟨m, hm⟩ : ∃ m, m = allB (passesS p days ⟨x, y, false⟩) a j := ⟨_, rfl⟩
    rw [← hm]
    by_cases hjl : j < z + 1 - a
    · obtain ⟨pdd, y0, y1, y2⟩ := HF.out wr HB2.out
      obtain ⟨q0, q1, q2, q3, q4, zp⟩ := pdd.cells
      obtain ⟨ix, hix⟩ : ∃ ix, ix = (passesS p days ⟨x, y, false⟩).getD (a + j) false := ⟨_, rfl⟩
      have kc : Calls Try.prog 17 #[.agg #[.slice As p.steps.length cs, .int .i64 p.hold, .int .i64 p.calm, .int .i64 p.notice, .int .i64 p.grace], .slice Ad days.length cd, .agg #[.int .i64 x, .int .i64 y, .bool false], .int .i64 ((a : Int) + j)] wr
          fun e w' => e = .returned (.tuple #[.bool ix, .int .i64 0]) ∧ Below wr.heap.size wr w' := by
        have := may_call cd hst pdd (by omega) HVR.out (k := a + j) (by omega)
        rw [← hix] at this
        simpa using this
      have KC := Lib.hid kc
      have HMX := Lib.hid (And.intro hm hix)
      clear pdd kc hm hix
      go_wp2_with fail
      refine KC.out.mono ?_
      rintro e V1 ⟨rfl, b1⟩
      have HB3 := Lib.hid (HB2.out.trans (b1.mono HB2.out.size))
      clear b1 q0 q1 q2 q3 q4 zp y0 y1 y2
      cases m
      · go_wp2_with fail
        go_roundw
        case measure => simp [intOf]; omega
        case rel => exact ⟨j + 1, by omega, by rw [allB, ← HMX.out.1]; rfl, by go_num, HB3.out⟩
      · go_wp2_with fail
        go_roundw
        case measure => simp [intOf]; omega
        case rel => exact ⟨j + 1, by omega, by rw [allB, ← HMX.out.1, ← HMX.out.2]; rfl, by go_num, HB3.out⟩
    · obtain rfl : j = z + 1 - a := by omega
      rw [HM.out] at hm
      subst hm
      have HBX := Lib.hid (HY.out.1.trans (HB2.out.mono HY.out.1.size))
      have heq : (((k : Int) == 0) != ((k : Int) == 0)) = false := by simp
      go_wp2_with fail
      exact HI.out _ _ _ _ _ _ _ _ _ _ _ _ _ _ _ _ _ _ _ _ _ _ _ _ _ _ _ _ _ _ _ _ _ _ _ _ _ _ _ _ _ _ _ _ _ HBX.out
end Go.Proofs.Ytfmhlnfcbbpfeaa
