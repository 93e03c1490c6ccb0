/- A round of RestrictSmall's loop over the example's numbers (printed by wip/tools/small1.py) -/
import Derived.Test.YtbgnkljjgfcngaaGreatRSp37
import Derived.Test.YtbgnkljjgfcngaaGreatRSp2
import Derived.Deep.DeepCutAuto
import Derived.IntWalk
set_option linter.unusedVariables false
set_option linter.unusedSimpArgs false
namespace Go.Proofs.YtbgnkljjgfcngaaGreat
open Go Go.RowKit Sp
set_option linter.unusedVariables false

set_option linter.unusedVariables false
def Sm1V (X : World) (sb db pb xb yb ab tb ib nb : Nat) : Nat → Value → Prop
  | 0, v => v = .pointer (some ⟨pb, 1, none⟩)
  | 1, v => v = .pointer (some ⟨pb, 2, none⟩)
  | 2, v => v = .pointer (some ⟨pb, 3, none⟩)
  | 3, v => v = .pointer (some ⟨pb, 4, none⟩)
  | 4, v => v = .pointer (some ⟨pb, 0, none⟩)
  | 5, v => v = .slice (some ⟨sb, 0, none⟩) 3 3
  | 6, v => v = .pointer (some ⟨sb, 0, none⟩)
  | 7, v => v = .pointer (some ⟨sb, 0, none⟩)
  | 8, v => v = .pointer (some ⟨pb, 0, none⟩)
  | 9, v => v = .slice (some ⟨sb, 0, none⟩) 3 3
  | 10, v => v = .pointer (some ⟨sb, 0, none⟩)
  | 11, v => v = .pointer (some ⟨sb, 3, none⟩)
  | 12, v => v = .pointer (some ⟨pb, 0, none⟩)
  | 13, v => v = .slice (some ⟨sb, 0, none⟩) 3 3
  | 14, v => v = .pointer (some ⟨sb, 4, none⟩)
  | 15, v => v = .pointer (some ⟨sb, 4, none⟩)
  | 16, v => v = .pointer (some ⟨pb, 0, none⟩)
  | 17, v => v = .slice (some ⟨sb, 0, none⟩) 3 3
  | 18, v => v = .pointer (some ⟨sb, 4, none⟩)
  | 19, v => v = .pointer (some ⟨sb, 5, none⟩)
  | 20, v => v = .pointer (some ⟨pb, 0, none⟩)
  | 21, v => v = .slice (some ⟨sb, 0, none⟩) 3 3
  | 22, v => v = .pointer (some ⟨sb, 4, none⟩)
  | 23, v => v = .pointer (some ⟨sb, 6, none⟩)
  | 24, v => v = .pointer (some ⟨pb, 0, none⟩)
  | 25, v => v = .slice (some ⟨sb, 0, none⟩) 3 3
  | 26, v => v = .pointer (some ⟨sb, 4, none⟩)
  | 27, v => v = .pointer (some ⟨sb, 7, none⟩)
  | 28, v => v = .pointer (some ⟨pb, 0, none⟩)
  | 29, v => v = .slice (some ⟨sb, 0, none⟩) 3 3
  | 30, v => v = .pointer (some ⟨sb, 8, none⟩)
  | 31, v => v = .pointer (some ⟨sb, 10, none⟩)
  | 32, v => v = .pointer (some ⟨pb, 0, none⟩)
  | 33, v => v = .slice (some ⟨sb, 0, none⟩) 3 3
  | 34, v => v = .pointer (some ⟨sb, 8, none⟩)
  | 35, v => v = .pointer (some ⟨sb, 11, none⟩)
  | 36, v => v = .slice (some ⟨db, 0, none⟩) 9 9
  | 37, v => v = .pointer (some ⟨db, 2, none⟩)
  | 38, v => v = .slice (some ⟨db, 0, none⟩) 9 9
  | 39, v => v = .pointer (some ⟨db, 4, none⟩)
  | 40, v => v = .pointer (some ⟨xb, 0, none⟩)
  | 41, v => v = .pointer (some ⟨xb, 1, none⟩)
  | 42, v => v = .pointer (some ⟨yb, 3, none⟩)
  | 43, v => v = .pointer (some ⟨yb, 4, none⟩)
  | 44, v => v = .pointer (some ⟨ib, 0, none⟩)
  | 45, v => v = .pointer (some ⟨ib, 1, none⟩)
  | 46, v => v = .slice (some ⟨nb, 0, none⟩) 22 22
  | 47, v => v = .slice (some ⟨nb, 0, none⟩) 22 22
  | _, _ => True
def Sm1W (X : World) (sb db pb xb yb ab tb ib nb : Nat) (l : Nat → Bool) (w : World) : Prop := (l 46 = false → w.heap.size = X.heap.size) ∧ (l 46 = true → w.heap[nb]? = some (.cells #[.pointer (some ⟨pb, 1, none⟩), .pointer (some ⟨pb, 2, none⟩), .pointer (some ⟨pb, 3, none⟩), .pointer (some ⟨pb, 4, none⟩), .pointer (some ⟨sb, 0, none⟩), .pointer (some ⟨sb, 3, none⟩), .pointer (some ⟨sb, 4, none⟩), .pointer (some ⟨sb, 5, none⟩), .pointer (some ⟨sb, 6, none⟩), .pointer (some ⟨sb, 7, none⟩), .pointer (some ⟨sb, 10, none⟩), .pointer (some ⟨sb, 11, none⟩), .pointer (some ⟨db, 2, none⟩), .pointer (some ⟨db, 4, none⟩), .pointer (some ⟨xb, 0, none⟩), .pointer (some ⟨xb, 1, none⟩), .pointer (some ⟨yb, 3, none⟩), .pointer (some ⟨yb, 4, none⟩), .pointer (some ⟨ab, 0, none⟩), .pointer (some ⟨tb, 0, none⟩), .pointer (some ⟨ib, 0, none⟩), .pointer (some ⟨ib, 1, none⟩)] 34 (0, 0))) ∧ Below X.heap.size X w
set_option maxRecDepth 100000 in
set_option maxHeartbeats 4000000 in
theorem small1 {wr : World} {v : Int} {n : Nat} (hv : -9223372036854775808 ≤ v) (hlt : n < 22) {s0 s1 s4 s5 s6 s7 s8 s9 s10 s11 s12 s13 s14 s15 s16 s17 s18 s19 s20 s21 s22 s23 s24 s25 s26 s27 s28 s29 s30 s31 s32 s33 s34 s35 s36 s37 s38 s39 s40 s41 s42 s43 s44 s45 s46 s47 s48 s49 s50 s51 s52 s53 s54 s55 s56 s57 s58 s59 s60 s61 s62 s63 s64 s65 s66 s67 s68 s69 s70 s71 s72 s73 s74 s75 s76 s77 s78 s79 s80 s81 s82 s83 s84 s85 s86 s87 s88 s89 s90 s91 s92 s93 s94 s95 s96 s97 s98 s99 s100 s101 s102 s103 s104 s105 s106 s107 s108 s109 s110 s111 s112 s113 s114 s115 s116 s117 s118 s119 s120 s121 s122 s123 s124 s125 s126 s127 s128 s129 s130 s131 s132 s133 s134 s135 s136 s137 s138 s139 s140 s141 s142 s143 s144 s145 s146 s147 s148 s149 s150 s151 s152 s153 s154 s155 s156 s157 s158 s159 s160 s161 s162 s163 s164 s165 s166 s167 s168 s169 s170 s171 s172 s173 s174 s175 s176 s177 s178 s179 s180 s181 s182 s183 s184 s185 s186 s187 s188 s189 s190 s191 s192 s193 s194 s195 s196 s197 s198 s199 s200 s201 s202 s203 s204 s205 s206 s207 s208 s209 s210 s211 s212 s213 s214 s215 s216 s217 s218 s219 s220 s221 s222 s223 s224 s225 s226 s227 s228 s229 s230 s231 s232 s233 s234 s235 s236 s237 s238 s239 s240 s241 s242 s243 s244 s245 s246 s247 s248 s249 s250 s251 s252 s253 s254 s255 s256 s257 s258 s259 s260 s261 s262 s263 s264 s265 s266 s267 s268 s269 s270 s271 s272 s273 s274 s275 s276 s277 s278 s279 s280 s281 s282 s283 s284 s285 s286 s287 s288 s289 s290 s291 s292 s293 s294 s295 s296 s297 s298 s299 s300 s301 s302 s303 s304 s305 s306 s307 s308 s309 s310 s311 s312 s313 s314 s315 s316 s317 s318 s319 s320 s321 s322 s323 s324 s325 s326 s327 s328 s329 s330 s331 s332 s333 s334 s335 s336 s337 s338 s339 s340 s341 s342 s343 s344 s345 s346 s347 s348 s349 s350 s351 s352 s353 s354 : Value} {Q0 : Exit → Act → World → Prop} {Inv : Act → World → Prop}
    (hInv : ∀ (t0 t4 t5 t6 t7 t8 t9 t10 t11 t40 t41 t42 t43 t44 t45 t46 t47 t48 t49 t50 t51 t52 t53 t54 t55 t56 t57 t58 t59 t60 t61 t62 t63 t64 t65 t66 t67 t68 t69 t70 t71 t72 t73 t74 t75 t76 t77 t78 t79 t80 t81 t82 t83 t84 t85 t86 t87 t88 t89 t90 t91 t92 t93 t94 t95 t96 t97 t98 t99 t100 t101 t102 t103 t104 t105 t106 t107 t108 t109 t110 t111 t112 t113 t114 t115 t116 t117 t118 t119 t120 t121 t122 t123 t124 : Value)  (w' : World), Below wr.heap.size wr w' → Inv ⟨#[t0, s1, .int .i64 v, .int .i64 ((n : Int) + 1), t4, t5, t6, t7, t8, t9, t10, t11, s12, s13, s14, s15, s16, s17, s18, s19, s20, s21, s22, s23, s24, s25, s26, s27, s28, s29, s30, s31, s32, s33, s34, s35, s36, s37, s38, s39, t40, t41, t42, t43, t44, t45, t46, t47, t48, t49, t50, t51, t52, t53, t54, t55, t56, t57, t58, t59, t60, t61, t62, t63, t64, t65, t66, t67, t68, t69, t70, t71, t72, t73, t74, t75, t76, t77, t78, t79, t80, t81, t82, t83, t84, t85, t86, t87, t88, t89, t90, t91, t92, t93, t94, t95, t96, t97, t98, t99, t100, t101, t102, t103, t104, t105, t106, t107, t108, t109, t110, t111, t112, t113, t114, t115, t116, t117, t118, t119, t120, t121, t122, t123, t124, s125, s126, s127, s128, s129, s130, s131, s132, s133, s134, s135, s136, s137, s138, s139, s140, s141, s142, s143, s144, s145, s146, s147, s148, s149, s150, s151, s152, s153, s154, s155, s156, s157, s158, s159, s160, s161, s162, s163, s164, s165, s166, s167, s168, s169, s170, s171, s172, s173, s174, s175, s176, s177, s178, s179, s180, s181, s182, s183, s184, s185, s186, s187, s188, s189, s190, s191, s192, s193, s194, s195, s196, s197, s198, s199, s200, s201, s202, s203, s204, s205, s206, s207, s208, s209, s210, s211, s212, s213, s214, s215, s216, s217, s218, s219, s220, s221, s222, s223, s224, s225, s226, s227, s228, s229, s230, s231, s232, s233, s234, s235, s236, s237, s238, s239, s240, s241, s242, s243, s244, s245, s246, s247, s248, s249, s250, s251, s252, s253, s254, s255, s256, s257, s258, s259, s260, s261, s262, s263, s264, s265, s266, s267, s268, s269, s270, s271, s272, s273, s274, s275, s276, s277, s278, s279, s280, s281, s282, s283, s284, s285, s286, s287, s288, s289, s290, s291, s292, s293, s294, s295, s296, s297, s298, s299, s300, s301, s302, s303, s304, s305, s306, s307, s308, s309, s310, s311, s312, s313, s314, s315, s316, s317, s318, s319, s320, s321, s322, s323, s324, s325, s326, s327, s328, s329, s330, s331, s332, s333, s334, s335, s336, s337, s338, s339, s340, s341, s342, s343, s344, s345, s346, s347, s348, s349, s350, s351, s352, s353, s354], []⟩ w') :
    Code.wp Tryz.prog (loopBody Tryz.f3 1) (Exit.then Inv Q0) ⟨#[s0, s1, .int .i64 v, .int .i64 n, s4, s5, s6, s7, s8, s9, s10, s11, s12, s13, s14, s15, s16, s17, s18, s19, s20, s21, s22, s23, s24, s25, s26, s27, s28, s29, s30, s31, s32, s33, s34, s35, s36, s37, s38, s39, s40, s41, s42, s43, s44, s45, s46, s47, s48, s49, s50, s51, s52, s53, s54, s55, s56, s57, s58, s59, s60, s61, s62, s63, s64, s65, s66, s67, s68, s69, s70, s71, s72, s73, s74, s75, s76, s77, s78, s79, s80, s81, s82, s83, s84, s85, s86, s87, s88, s89, s90, s91, s92, s93, s94, s95, s96, s97, s98, s99, s100, s101, s102, s103, s104, s105, s106, s107, s108, s109, s110, s111, s112, s113, s114, s115, s116, s117, s118, s119, s120, s121, s122, s123, s124, s125, s126, s127, s128, s129, s130, s131, s132, s133, s134, s135, s136, s137, s138, s139, s140, s141, s142, s143, s144, s145, s146, s147, s148, s149, s150, s151, s152, s153, s154, s155, s156, s157, s158, s159, s160, s161, s162, s163, s164, s165, s166, s167, s168, s169, s170, s171, s172, s173, s174, s175, s176, s177, s178, s179, s180, s181, s182, s183, s184, s185, s186, s187, s188, s189, s190, s191, s192, s193, s194, s195, s196, s197, s198, s199, s200, s201, s202, s203, s204, s205, s206, s207, s208, s209, s210, s211, s212, s213, s214, s215, s216, s217, s218, s219, s220, s221, s222, s223, s224, s225, s226, s227, s228, s229, s230, s231, s232, s233, s234, s235, s236, s237, s238, s239, s240, s241, s242, s243, s244, s245, s246, s247, s248, s249, s250, s251, s252, s253, s254, s255, s256, s257, s258, s259, s260, s261, s262, s263, s264, s265, s266, s267, s268, s269, s270, s271, s272, s273, s274, s275, s276, s277, s278, s279, s280, s281, s282, s283, s284, s285, s286, s287, s288, s289, s290, s291, s292, s293, s294, s295, s296, s297, s298, s299, s300, s301, s302, s303, s304, s305, s306, s307, s308, s309, s310, s311, s312, s313, s314, s315, s316, s317, s318, s319, s320, s321, s322, s323, s324, s325, s326, s327, s328, s329, s330, s331, s332, s333, s334, s335, s336, s337, s338, s339, s340, s341, s342, s343, s344, s345, s346, s347, s348, s349, s350, s351, s352, s353, s354], []⟩ wr := by
  conv => arg 2; whnf
  have HI := Lib.hid hInv
  have HV := Lib.hid (And.intro hv hlt)
  have hlt' : (n : Int) < 22 := by omega
  clear hInv hv
  go_wp2_with fail
  refine (Example_new _).mono ?_
  rintro e w1 ⟨sb, rfl, hs, gs, b1⟩
  have B0 := (Blks.nil wr).new b1 hs gs
  have HB0 := Lib.hid B0
  clear hs gs b1 B0
  go_wp2_with fail
  refine (winter_new _).mono ?_
  rintro e w2 ⟨db, rfl, hd, gd, b2⟩
  have B1 := HB0.out.new b2 hd gd
  have HB1 := Lib.hid B1
  clear hd gd b2 B1
  go_upto_region 9 with fail
  obtain ⟨X, hX⟩ : ∃ X, X = ((((((w2.alloc (.cells #[.slice (some ⟨sb, 0, none⟩) 3 3, .int .i64 2, .int .i64 3, .int .i64 1, .int .i64 2] 25)).alloc (.cells #[.int .i64 1, .int .i64 2500, .bool false] 29)).alloc (.cells #[.int .i64 2, .int .i64 2000, .bool false, .int .i64 3, .int .i64 6] 31)).alloc (.cells #[.int .i64 5] 3)).alloc (.cells #[.int .i64 2] 3)).alloc (.cells #[.int .i64 2, .int .i64 3] 33)) := ⟨_, rfl⟩
  obtain ⟨pb, hpb⟩ : ∃ b, b = w2.heap.size := ⟨_, rfl⟩
  obtain ⟨xb, hxb⟩ : ∃ b, b = w2.heap.size + 1 := ⟨_, rfl⟩
  obtain ⟨yb, hyb⟩ : ∃ b, b = w2.heap.size + 1 + 1 := ⟨_, rfl⟩
  obtain ⟨ab, hab⟩ : ∃ b, b = w2.heap.size + 1 + 1 + 1 := ⟨_, rfl⟩
  obtain ⟨tb, htb⟩ : ∃ b, b = w2.heap.size + 1 + 1 + 1 + 1 := ⟨_, rfl⟩
  obtain ⟨ib, hib⟩ : ∃ b, b = w2.heap.size + 1 + 1 + 1 + 1 + 1 := ⟨_, rfl⟩
  have HX : Blks wr.heap.size wr (numL sb db pb xb yb ab tb ib num0) X := by
    have h := ((((((HB1.out.alloc (.cells #[.slice (some ⟨sb, 0, none⟩) 3 3, .int .i64 2, .int .i64 3, .int .i64 1, .int .i64 2] 25)).alloc (.cells #[.int .i64 1, .int .i64 2500, .bool false] 29)).alloc (.cells #[.int .i64 2, .int .i64 2000, .bool false, .int .i64 3, .int .i64 6] 31)).alloc (.cells #[.int .i64 5] 3)).alloc (.cells #[.int .i64 2] 3)).alloc (.cells #[.int .i64 2, .int .i64 3] 33))
    simp only [World.size_alloc] at h
    rw [hX, hpb, hxb, hyb, hab, htb, hib]
    exact h
  rw [← hX, ← hib, ← htb, ← hab, ← hyb, ← hxb, ← hpb]
  have HBX := Lib.hid HX
  have p0 : X.cell? ⟨pb, 0, none⟩ = some (.slice (some ⟨sb, 0, none⟩) 3 3) := (cell_of_heap (HX.heap 2 rfl) 0).trans rfl
  have zp : pb < X.heap.size := HX.lt 2 rfl
  clear hX HX hpb hxb hyb hab htb hib
  obtain ⟨nb, hnb⟩ : ∃ b, b = X.heap.size := ⟨_, rfl⟩
  refine wp_region_steps (σ := Unit) (by kernel_rfl) (by kernel_rfl) (fun _ jx vx _ => Sm1V X sb db pb xb yb ab tb ib nb jx vx) (fun _ ly wx => Sm1W X sb db pb xb yb ab tb ib nb ly wx) () ?_ ?_ ?_
  · exact ⟨fun _ => rfl, (fun h => by cases h), (Below.refl _ _).drew⟩
  · simp only [AllFrom, Nat.zero_add, Nat.reduceAdd]
    refine ⟨?_, ?_, ?_, ?_, ?_, ?_, ?_, ?_, ?_, ?_, ?_, ?_, ?_, ?_, ?_, ?_, ?_, ?_, ?_, ?_, ?_, ?_, ?_, ?_, ?_, ?_, ?_, ?_, ?_, ?_, ?_, ?_, ?_, ?_, ?_, ?_, ?_, ?_, ?_, ?_, ?_, ?_, ?_, ?_, ?_, ?_, ?_, ?_, trivial⟩
    · refine step_pure fun sg ly a wr hl hd hW hF => ?_
      have et4 := hF.old 4 (by kernel_rfl)
      simp [Act.eval] at et4
      exact ⟨by simpa [Sm1W, upd] using hW, .pointer (some ⟨pb, 1, none⟩), by go_simp, rfl⟩
    · refine step_pure fun sg ly a wr hl hd hW hF => ?_
      have et4 := hF.old 4 (by kernel_rfl)
      simp [Act.eval] at et4
      exact ⟨by simpa [Sm1W, upd] using hW, .pointer (some ⟨pb, 2, none⟩), by go_simp, rfl⟩
    · refine step_pure fun sg ly a wr hl hd hW hF => ?_
      have et4 := hF.old 4 (by kernel_rfl)
      simp [Act.eval] at et4
      exact ⟨by simpa [Sm1W, upd] using hW, .pointer (some ⟨pb, 3, none⟩), by go_simp, rfl⟩
    · refine step_pure fun sg ly a wr hl hd hW hF => ?_
      have et4 := hF.old 4 (by kernel_rfl)
      simp [Act.eval] at et4
      exact ⟨by simpa [Sm1W, upd] using hW, .pointer (some ⟨pb, 4, none⟩), by go_simp, rfl⟩
    · refine step_pure fun sg ly a wr hl hd hW hF => ?_
      have et4 := hF.old 4 (by kernel_rfl)
      simp [Act.eval] at et4
      exact ⟨by simpa [Sm1W, upd] using hW, .pointer (some ⟨pb, 0, none⟩), by go_simp, rfl⟩
    · refine step_pure fun sg ly a wx hl hd hW hF => ?_
      simp [Region.binds] at hd
      have et54 := hF.new 4 54 (by simp [hd]) rfl
      simp [Sm1V, Act.eval] at et54
      have cL := (hW.2.2.cell (p := ⟨pb, 0, none⟩) zp).trans p0
      exact ⟨by simpa [Sm1W, upd] using hW, .slice (some ⟨sb, 0, none⟩) 3 3, by go_simp, rfl⟩
    · refine step_pure fun sg ly a wr hl hd hW hF => ?_
      simp [Region.binds] at hd
      have et55 := hF.new 5 55 (by simp [hd]) rfl
      simp [Sm1V, Act.eval] at et55
      exact ⟨by simpa [Sm1W, upd] using hW, .pointer (some ⟨sb, 0, none⟩), by go_simp, rfl⟩
    · refine step_pure fun sg ly a wr hl hd hW hF => ?_
      simp [Region.binds] at hd
      have et56 := hF.new 6 56 (by simp [hd]) rfl
      simp [Sm1V, Act.eval] at et56
      exact ⟨by simpa [Sm1W, upd] using hW, .pointer (some ⟨sb, 0, none⟩), by go_simp, rfl⟩
    · refine step_pure fun sg ly a wr hl hd hW hF => ?_
      have et4 := hF.old 4 (by kernel_rfl)
      simp [Act.eval] at et4
      exact ⟨by simpa [Sm1W, upd] using hW, .pointer (some ⟨pb, 0, none⟩), by go_simp, rfl⟩
    · refine step_pure fun sg ly a wx hl hd hW hF => ?_
      simp [Region.binds] at hd
      have et58 := hF.new 8 58 (by simp [hd]) rfl
      simp [Sm1V, Act.eval] at et58
      have cL := (hW.2.2.cell (p := ⟨pb, 0, none⟩) zp).trans p0
      exact ⟨by simpa [Sm1W, upd] using hW, .slice (some ⟨sb, 0, none⟩) 3 3, by go_simp, rfl⟩
    · refine step_pure fun sg ly a wr hl hd hW hF => ?_
      simp [Region.binds] at hd
      have et59 := hF.new 9 59 (by simp [hd]) rfl
      simp [Sm1V, Act.eval] at et59
      exact ⟨by simpa [Sm1W, upd] using hW, .pointer (some ⟨sb, 0, none⟩), by go_simp, rfl⟩
    · refine step_pure fun sg ly a wr hl hd hW hF => ?_
      simp [Region.binds] at hd
      have et60 := hF.new 10 60 (by simp [hd]) rfl
      simp [Sm1V, Act.eval] at et60
      exact ⟨by simpa [Sm1W, upd] using hW, .pointer (some ⟨sb, 3, none⟩), by go_simp, rfl⟩
    · refine step_pure fun sg ly a wr hl hd hW hF => ?_
      have et4 := hF.old 4 (by kernel_rfl)
      simp [Act.eval] at et4
      exact ⟨by simpa [Sm1W, upd] using hW, .pointer (some ⟨pb, 0, none⟩), by go_simp, rfl⟩
    · refine step_pure fun sg ly a wx hl hd hW hF => ?_
      simp [Region.binds] at hd
      have et62 := hF.new 12 62 (by simp [hd]) rfl
      simp [Sm1V, Act.eval] at et62
      have cL := (hW.2.2.cell (p := ⟨pb, 0, none⟩) zp).trans p0
      exact ⟨by simpa [Sm1W, upd] using hW, .slice (some ⟨sb, 0, none⟩) 3 3, by go_simp, rfl⟩
    · refine step_pure fun sg ly a wr hl hd hW hF => ?_
      simp [Region.binds] at hd
      have et63 := hF.new 13 63 (by simp [hd]) rfl
      simp [Sm1V, Act.eval] at et63
      exact ⟨by simpa [Sm1W, upd] using hW, .pointer (some ⟨sb, 4, none⟩), by go_simp, rfl⟩
    · refine step_pure fun sg ly a wr hl hd hW hF => ?_
      simp [Region.binds] at hd
      have et64 := hF.new 14 64 (by simp [hd]) rfl
      simp [Sm1V, Act.eval] at et64
      exact ⟨by simpa [Sm1W, upd] using hW, .pointer (some ⟨sb, 4, none⟩), by go_simp, rfl⟩
    · refine step_pure fun sg ly a wr hl hd hW hF => ?_
      have et4 := hF.old 4 (by kernel_rfl)
      simp [Act.eval] at et4
      exact ⟨by simpa [Sm1W, upd] using hW, .pointer (some ⟨pb, 0, none⟩), by go_simp, rfl⟩
    · refine step_pure fun sg ly a wx hl hd hW hF => ?_
      simp [Region.binds] at hd
      have et66 := hF.new 16 66 (by simp [hd]) rfl
      simp [Sm1V, Act.eval] at et66
      have cL := (hW.2.2.cell (p := ⟨pb, 0, none⟩) zp).trans p0
      exact ⟨by simpa [Sm1W, upd] using hW, .slice (some ⟨sb, 0, none⟩) 3 3, by go_simp, rfl⟩
    · refine step_pure fun sg ly a wr hl hd hW hF => ?_
      simp [Region.binds] at hd
      have et67 := hF.new 17 67 (by simp [hd]) rfl
      simp [Sm1V, Act.eval] at et67
      exact ⟨by simpa [Sm1W, upd] using hW, .pointer (some ⟨sb, 4, none⟩), by go_simp, rfl⟩
    · refine step_pure fun sg ly a wr hl hd hW hF => ?_
      simp [Region.binds] at hd
      have et68 := hF.new 18 68 (by simp [hd]) rfl
      simp [Sm1V, Act.eval] at et68
      exact ⟨by simpa [Sm1W, upd] using hW, .pointer (some ⟨sb, 5, none⟩), by go_simp, rfl⟩
    · refine step_pure fun sg ly a wr hl hd hW hF => ?_
      have et4 := hF.old 4 (by kernel_rfl)
      simp [Act.eval] at et4
      exact ⟨by simpa [Sm1W, upd] using hW, .pointer (some ⟨pb, 0, none⟩), by go_simp, rfl⟩
    · refine step_pure fun sg ly a wx hl hd hW hF => ?_
      simp [Region.binds] at hd
      have et70 := hF.new 20 70 (by simp [hd]) rfl
      simp [Sm1V, Act.eval] at et70
      have cL := (hW.2.2.cell (p := ⟨pb, 0, none⟩) zp).trans p0
      exact ⟨by simpa [Sm1W, upd] using hW, .slice (some ⟨sb, 0, none⟩) 3 3, by go_simp, rfl⟩
    · refine step_pure fun sg ly a wr hl hd hW hF => ?_
      simp [Region.binds] at hd
      have et71 := hF.new 21 71 (by simp [hd]) rfl
      simp [Sm1V, Act.eval] at et71
      exact ⟨by simpa [Sm1W, upd] using hW, .pointer (some ⟨sb, 4, none⟩), by go_simp, rfl⟩
    · refine step_pure fun sg ly a wr hl hd hW hF => ?_
      simp [Region.binds] at hd
      have et72 := hF.new 22 72 (by simp [hd]) rfl
      simp [Sm1V, Act.eval] at et72
      exact ⟨by simpa [Sm1W, upd] using hW, .pointer (some ⟨sb, 6, none⟩), by go_simp, rfl⟩
    · refine step_pure fun sg ly a wr hl hd hW hF => ?_
      have et4 := hF.old 4 (by kernel_rfl)
      simp [Act.eval] at et4
      exact ⟨by simpa [Sm1W, upd] using hW, .pointer (some ⟨pb, 0, none⟩), by go_simp, rfl⟩
    · refine step_pure fun sg ly a wx hl hd hW hF => ?_
      simp [Region.binds] at hd
      have et74 := hF.new 24 74 (by simp [hd]) rfl
      simp [Sm1V, Act.eval] at et74
      have cL := (hW.2.2.cell (p := ⟨pb, 0, none⟩) zp).trans p0
      exact ⟨by simpa [Sm1W, upd] using hW, .slice (some ⟨sb, 0, none⟩) 3 3, by go_simp, rfl⟩
    · refine step_pure fun sg ly a wr hl hd hW hF => ?_
      simp [Region.binds] at hd
      have et75 := hF.new 25 75 (by simp [hd]) rfl
      simp [Sm1V, Act.eval] at et75
      exact ⟨by simpa [Sm1W, upd] using hW, .pointer (some ⟨sb, 4, none⟩), by go_simp, rfl⟩
    · refine step_pure fun sg ly a wr hl hd hW hF => ?_
      simp [Region.binds] at hd
      have et76 := hF.new 26 76 (by simp [hd]) rfl
      simp [Sm1V, Act.eval] at et76
      exact ⟨by simpa [Sm1W, upd] using hW, .pointer (some ⟨sb, 7, none⟩), by go_simp, rfl⟩
    · refine step_pure fun sg ly a wr hl hd hW hF => ?_
      have et4 := hF.old 4 (by kernel_rfl)
      simp [Act.eval] at et4
      exact ⟨by simpa [Sm1W, upd] using hW, .pointer (some ⟨pb, 0, none⟩), by go_simp, rfl⟩
    · refine step_pure fun sg ly a wx hl hd hW hF => ?_
      simp [Region.binds] at hd
      have et78 := hF.new 28 78 (by simp [hd]) rfl
      simp [Sm1V, Act.eval] at et78
      have cL := (hW.2.2.cell (p := ⟨pb, 0, none⟩) zp).trans p0
      exact ⟨by simpa [Sm1W, upd] using hW, .slice (some ⟨sb, 0, none⟩) 3 3, by go_simp, rfl⟩
    · refine step_pure fun sg ly a wr hl hd hW hF => ?_
      simp [Region.binds] at hd
      have et79 := hF.new 29 79 (by simp [hd]) rfl
      simp [Sm1V, Act.eval] at et79
      exact ⟨by simpa [Sm1W, upd] using hW, .pointer (some ⟨sb, 8, none⟩), by go_simp, rfl⟩
    · refine step_pure fun sg ly a wr hl hd hW hF => ?_
      simp [Region.binds] at hd
      have et80 := hF.new 30 80 (by simp [hd]) rfl
      simp [Sm1V, Act.eval] at et80
      exact ⟨by simpa [Sm1W, upd] using hW, .pointer (some ⟨sb, 10, none⟩), by go_simp, rfl⟩
    · refine step_pure fun sg ly a wr hl hd hW hF => ?_
      have et4 := hF.old 4 (by kernel_rfl)
      simp [Act.eval] at et4
      exact ⟨by simpa [Sm1W, upd] using hW, .pointer (some ⟨pb, 0, none⟩), by go_simp, rfl⟩
    · refine step_pure fun sg ly a wx hl hd hW hF => ?_
      simp [Region.binds] at hd
      have et82 := hF.new 32 82 (by simp [hd]) rfl
      simp [Sm1V, Act.eval] at et82
      have cL := (hW.2.2.cell (p := ⟨pb, 0, none⟩) zp).trans p0
      exact ⟨by simpa [Sm1W, upd] using hW, .slice (some ⟨sb, 0, none⟩) 3 3, by go_simp, rfl⟩
    · refine step_pure fun sg ly a wr hl hd hW hF => ?_
      simp [Region.binds] at hd
      have et83 := hF.new 33 83 (by simp [hd]) rfl
      simp [Sm1V, Act.eval] at et83
      exact ⟨by simpa [Sm1W, upd] using hW, .pointer (some ⟨sb, 8, none⟩), by go_simp, rfl⟩
    · refine step_pure fun sg ly a wr hl hd hW hF => ?_
      simp [Region.binds] at hd
      have et84 := hF.new 34 84 (by simp [hd]) rfl
      simp [Sm1V, Act.eval] at et84
      exact ⟨by simpa [Sm1W, upd] using hW, .pointer (some ⟨sb, 11, none⟩), by go_simp, rfl⟩
    · refine step_pure fun sg ly a wr hl hd hW hF => ?_
      have et5 := hF.old 5 (by kernel_rfl)
      simp [Act.eval] at et5
      exact ⟨by simpa [Sm1W, upd] using hW, .slice (some ⟨db, 0, none⟩) 9 9, by go_simp, rfl⟩
    · refine step_pure fun sg ly a wr hl hd hW hF => ?_
      simp [Region.binds] at hd
      have et86 := hF.new 36 86 (by simp [hd]) rfl
      simp [Sm1V, Act.eval] at et86
      exact ⟨by simpa [Sm1W, upd] using hW, .pointer (some ⟨db, 2, none⟩), by go_simp, rfl⟩
    · refine step_pure fun sg ly a wr hl hd hW hF => ?_
      have et5 := hF.old 5 (by kernel_rfl)
      simp [Act.eval] at et5
      exact ⟨by simpa [Sm1W, upd] using hW, .slice (some ⟨db, 0, none⟩) 9 9, by go_simp, rfl⟩
    · refine step_pure fun sg ly a wr hl hd hW hF => ?_
      simp [Region.binds] at hd
      have et88 := hF.new 38 88 (by simp [hd]) rfl
      simp [Sm1V, Act.eval] at et88
      exact ⟨by simpa [Sm1W, upd] using hW, .pointer (some ⟨db, 4, none⟩), by go_simp, rfl⟩
    · refine step_pure fun sg ly a wr hl hd hW hF => ?_
      have et6 := hF.old 6 (by kernel_rfl)
      simp [Act.eval] at et6
      exact ⟨by simpa [Sm1W, upd] using hW, .pointer (some ⟨xb, 0, none⟩), by go_simp, rfl⟩
    · refine step_pure fun sg ly a wr hl hd hW hF => ?_
      have et6 := hF.old 6 (by kernel_rfl)
      simp [Act.eval] at et6
      exact ⟨by simpa [Sm1W, upd] using hW, .pointer (some ⟨xb, 1, none⟩), by go_simp, rfl⟩
    · refine step_pure fun sg ly a wr hl hd hW hF => ?_
      have et7 := hF.old 7 (by kernel_rfl)
      simp [Act.eval] at et7
      exact ⟨by simpa [Sm1W, upd] using hW, .pointer (some ⟨yb, 3, none⟩), by go_simp, rfl⟩
    · refine step_pure fun sg ly a wr hl hd hW hF => ?_
      have et7 := hF.old 7 (by kernel_rfl)
      simp [Act.eval] at et7
      exact ⟨by simpa [Sm1W, upd] using hW, .pointer (some ⟨yb, 4, none⟩), by go_simp, rfl⟩
    · refine step_pure fun sg ly a wr hl hd hW hF => ?_
      have et10 := hF.old 10 (by kernel_rfl)
      simp [Act.eval] at et10
      exact ⟨by simpa [Sm1W, upd] using hW, .pointer (some ⟨ib, 0, none⟩), by go_simp, rfl⟩
    · refine step_pure fun sg ly a wr hl hd hW hF => ?_
      have et10 := hF.old 10 (by kernel_rfl)
      simp [Act.eval] at et10
      exact ⟨by simpa [Sm1W, upd] using hW, .pointer (some ⟨ib, 1, none⟩), by go_simp, rfl⟩
    · refine step_run fun sg ly a wx hl hd hW hF => ?_
      simp [Region.binds] at hd
      have et50 := hF.new 0 50 (by simp [hd]) rfl
      simp [Sm1V, Act.eval] at et50
      have et51 := hF.new 1 51 (by simp [hd]) rfl
      simp [Sm1V, Act.eval] at et51
      have et52 := hF.new 2 52 (by simp [hd]) rfl
      simp [Sm1V, Act.eval] at et52
      have et53 := hF.new 3 53 (by simp [hd]) rfl
      simp [Sm1V, Act.eval] at et53
      have et57 := hF.new 7 57 (by simp [hd]) rfl
      simp [Sm1V, Act.eval] at et57
      have et61 := hF.new 11 61 (by simp [hd]) rfl
      simp [Sm1V, Act.eval] at et61
      have et65 := hF.new 15 65 (by simp [hd]) rfl
      simp [Sm1V, Act.eval] at et65
      have et69 := hF.new 19 69 (by simp [hd]) rfl
      simp [Sm1V, Act.eval] at et69
      have et73 := hF.new 23 73 (by simp [hd]) rfl
      simp [Sm1V, Act.eval] at et73
      have et77 := hF.new 27 77 (by simp [hd]) rfl
      simp [Sm1V, Act.eval] at et77
      have et81 := hF.new 31 81 (by simp [hd]) rfl
      simp [Sm1V, Act.eval] at et81
      have et85 := hF.new 35 85 (by simp [hd]) rfl
      simp [Sm1V, Act.eval] at et85
      have et87 := hF.new 37 87 (by simp [hd]) rfl
      simp [Sm1V, Act.eval] at et87
      have et89 := hF.new 39 89 (by simp [hd]) rfl
      simp [Sm1V, Act.eval] at et89
      have et90 := hF.new 40 90 (by simp [hd]) rfl
      simp [Sm1V, Act.eval] at et90
      have et91 := hF.new 41 91 (by simp [hd]) rfl
      simp [Sm1V, Act.eval] at et91
      have et92 := hF.new 42 92 (by simp [hd]) rfl
      simp [Sm1V, Act.eval] at et92
      have et93 := hF.new 43 93 (by simp [hd]) rfl
      simp [Sm1V, Act.eval] at et93
      have et8 := hF.old 8 (by kernel_rfl)
      simp [Act.eval] at et8
      have et9 := hF.old 9 (by kernel_rfl)
      simp [Act.eval] at et9
      have et94 := hF.new 44 94 (by simp [hd]) rfl
      simp [Sm1V, Act.eval] at et94
      have et95 := hF.new 45 95 (by simp [hd]) rfl
      simp [Sm1V, Act.eval] at et95
      have hs := hW.1 hl
      refine ⟨.slice (some ⟨nb, 0, none⟩) 22 22, wx.alloc (.cells #[.pointer (some ⟨pb, 1, none⟩), .pointer (some ⟨pb, 2, none⟩), .pointer (some ⟨pb, 3, none⟩), .pointer (some ⟨pb, 4, none⟩), .pointer (some ⟨sb, 0, none⟩), .pointer (some ⟨sb, 3, none⟩), .pointer (some ⟨sb, 4, none⟩), .pointer (some ⟨sb, 5, none⟩), .pointer (some ⟨sb, 6, none⟩), .pointer (some ⟨sb, 7, none⟩), .pointer (some ⟨sb, 10, none⟩), .pointer (some ⟨sb, 11, none⟩), .pointer (some ⟨db, 2, none⟩), .pointer (some ⟨db, 4, none⟩), .pointer (some ⟨xb, 0, none⟩), .pointer (some ⟨xb, 1, none⟩), .pointer (some ⟨yb, 3, none⟩), .pointer (some ⟨yb, 4, none⟩), .pointer (some ⟨ab, 0, none⟩), .pointer (some ⟨tb, 0, none⟩), .pointer (some ⟨ib, 0, none⟩), .pointer (some ⟨ib, 1, none⟩)] 34), (), ?_, ⟨fun h => by simp [upd] at h, fun _ => ?_, hW.2.2.alloc hW.2.2.size _⟩, rfl, fun _ _ _ h => h⟩
      · rw [show nb = wx.heap.size by rw [hs, hnb]]; go_simp
      · have hh := heap_alloc_new wx (.cells #[.pointer (some ⟨pb, 1, none⟩), .pointer (some ⟨pb, 2, none⟩), .pointer (some ⟨pb, 3, none⟩), .pointer (some ⟨pb, 4, none⟩), .pointer (some ⟨sb, 0, none⟩), .pointer (some ⟨sb, 3, none⟩), .pointer (some ⟨sb, 4, none⟩), .pointer (some ⟨sb, 5, none⟩), .pointer (some ⟨sb, 6, none⟩), .pointer (some ⟨sb, 7, none⟩), .pointer (some ⟨sb, 10, none⟩), .pointer (some ⟨sb, 11, none⟩), .pointer (some ⟨db, 2, none⟩), .pointer (some ⟨db, 4, none⟩), .pointer (some ⟨xb, 0, none⟩), .pointer (some ⟨xb, 1, none⟩), .pointer (some ⟨yb, 3, none⟩), .pointer (some ⟨yb, 4, none⟩), .pointer (some ⟨ab, 0, none⟩), .pointer (some ⟨tb, 0, none⟩), .pointer (some ⟨ib, 0, none⟩), .pointer (some ⟨ib, 1, none⟩)] 34)
        rw [hs, ← hnb] at hh
        exact hh
    · refine step_pure fun sg ly a wr hl hd hW hF => ?_
      simp [Region.binds] at hd
      have et96 := hF.new 46 96 (by simp [hd]) rfl
      simp [Sm1V, Act.eval] at et96
      exact ⟨by simpa [Sm1W, upd] using hW, .slice (some ⟨nb, 0, none⟩) 22 22, by go_simp, rfl⟩
  intro _ a w5 hW hF
  have e11 := hF.new 47 11 (by decide) rfl
  obtain ⟨fr, hf, rfl⟩ := hF.lit
  rw [← hf] at e11
  simp only [Sm1V] at e11
  have hnh := hW.2.1 (by decide)
  have HB5 := HBX.out.below hW.2.2
  obtain ⟨b, o, g, x, q1, q2, q3, q4, q5, q6⟩ := num_store HB5 HV.out.2 HV.out.1 num0_ge
  have q0 : w5.cell? ⟨nb, n, none⟩ = some (.pointer (some ⟨b, o, none⟩)) := (cell_of_heap hnh n).trans (num_ptr q1)
  have zn := heap_lt hnh
  have HG := Lib.hid (And.intro q5 q6)
  clear hf hF hW hnh HB5 q1 q5 q6 p0 zp hnb
  simp only [List.filterMap, List.foldl, List.setIfInBounds_toArray, List.set_cons_succ, List.set_cons_zero, e11]
  clear e11
  go_upto_region 11 with fail
  obtain ⟨Y, hY⟩ : ∃ Y, Y = w5.setCell ⟨b, o, none⟩ (.int .i64 v) := ⟨_, rfl⟩
  rw [← hY] at HG ⊢
  clear hY q0 q2 q3 q4 zn
  have cpb0 : Y.cell? ⟨pb, 0, none⟩ = some (.slice (some ⟨sb, 0, none⟩) 3 3) := (cell_of_heap (HG.out.1.heap 2 rfl) 0).trans rfl
  have cpb1 : Y.cell? ⟨pb, 1, none⟩ = some (.int .i64 (g 0)) := (cell_of_heap (HG.out.1.heap 2 rfl) 1).trans rfl
  have cpb2 : Y.cell? ⟨pb, 2, none⟩ = some (.int .i64 (g 1)) := (cell_of_heap (HG.out.1.heap 2 rfl) 2).trans rfl
  have cpb3 : Y.cell? ⟨pb, 3, none⟩ = some (.int .i64 (g 2)) := (cell_of_heap (HG.out.1.heap 2 rfl) 3).trans rfl
  have cpb4 : Y.cell? ⟨pb, 4, none⟩ = some (.int .i64 (g 3)) := (cell_of_heap (HG.out.1.heap 2 rfl) 4).trans rfl
  have zpb : pb < Y.heap.size := HG.out.1.lt 2 rfl
  have cab0 : Y.cell? ⟨ab, 0, none⟩ = some (.int .i64 (g 18)) := (cell_of_heap (HG.out.1.heap 5 rfl) 0).trans rfl
  have zab : ab < Y.heap.size := HG.out.1.lt 5 rfl
  have ctb0 : Y.cell? ⟨tb, 0, none⟩ = some (.int .i64 (g 19)) := (cell_of_heap (HG.out.1.heap 6 rfl) 0).trans rfl
  have ztb : tb < Y.heap.size := HG.out.1.lt 6 rfl
  have cib0 : Y.cell? ⟨ib, 0, none⟩ = some (.int .i64 (g 20)) := (cell_of_heap (HG.out.1.heap 7 rfl) 0).trans rfl
  have cib1 : Y.cell? ⟨ib, 1, none⟩ = some (.int .i64 (g 21)) := (cell_of_heap (HG.out.1.heap 7 rfl) 1).trans rfl
  have zib : ib < Y.heap.size := HG.out.1.lt 7 rfl
  have k1 := small_steps (HG.out.1.below ((Below.refl _ _).alloc (Nat.le_refl _) _)) HG.out.2 (heap_alloc_new Y (.cells #[.int .i64 1, .int .i64 2, .int .i64 1, .int .i64 3, .int .i64 4, .int .i64 2] 40))
  have K1 := Lib.hid k1
  clear k1
  go_wp2_with fail
  refine K1.out.mono ?_
  rintro e Y2 ⟨rfl, b3⟩
  have HB2 := HG.out.1.below (((Below.refl _ _).alloc (Nat.le_refl _) _).trans (b3.mono (by simp)))
  have HY2 := Lib.hid HB2
  clear b3 HB2 K1
  clear cpb0 cpb1 cpb2 cpb3 cpb4 zpb cab0 zab ctb0 ztb cib0 cib1 zib
  have cpb0 : Y2.cell? ⟨pb, 0, none⟩ = some (.slice (some ⟨sb, 0, none⟩) 3 3) := (cell_of_heap (HY2.out.heap 2 rfl) 0).trans rfl
  have cpb1 : Y2.cell? ⟨pb, 1, none⟩ = some (.int .i64 (g 0)) := (cell_of_heap (HY2.out.heap 2 rfl) 1).trans rfl
  have cpb2 : Y2.cell? ⟨pb, 2, none⟩ = some (.int .i64 (g 1)) := (cell_of_heap (HY2.out.heap 2 rfl) 2).trans rfl
  have cpb3 : Y2.cell? ⟨pb, 3, none⟩ = some (.int .i64 (g 2)) := (cell_of_heap (HY2.out.heap 2 rfl) 3).trans rfl
  have cpb4 : Y2.cell? ⟨pb, 4, none⟩ = some (.int .i64 (g 3)) := (cell_of_heap (HY2.out.heap 2 rfl) 4).trans rfl
  have zpb : pb < Y2.heap.size := HY2.out.lt 2 rfl
  have cxb0 : Y2.cell? ⟨xb, 0, none⟩ = some (.int .i64 (g 14)) := (cell_of_heap (HY2.out.heap 3 rfl) 0).trans rfl
  have cxb1 : Y2.cell? ⟨xb, 1, none⟩ = some (.int .i64 (g 15)) := (cell_of_heap (HY2.out.heap 3 rfl) 1).trans rfl
  have cxb2 : Y2.cell? ⟨xb, 2, none⟩ = some (.bool false) := (cell_of_heap (HY2.out.heap 3 rfl) 2).trans rfl
  have zxb : xb < Y2.heap.size := HY2.out.lt 3 rfl
  have cyb0 : Y2.cell? ⟨yb, 0, none⟩ = some (.int .i64 2) := (cell_of_heap (HY2.out.heap 4 rfl) 0).trans rfl
  have cyb1 : Y2.cell? ⟨yb, 1, none⟩ = some (.int .i64 2000) := (cell_of_heap (HY2.out.heap 4 rfl) 1).trans rfl
  have cyb2 : Y2.cell? ⟨yb, 2, none⟩ = some (.bool false) := (cell_of_heap (HY2.out.heap 4 rfl) 2).trans rfl
  have cyb3 : Y2.cell? ⟨yb, 3, none⟩ = some (.int .i64 (g 16)) := (cell_of_heap (HY2.out.heap 4 rfl) 3).trans rfl
  have cyb4 : Y2.cell? ⟨yb, 4, none⟩ = some (.int .i64 (g 17)) := (cell_of_heap (HY2.out.heap 4 rfl) 4).trans rfl
  have zyb : yb < Y2.heap.size := HY2.out.lt 4 rfl
  have cab0 : Y2.cell? ⟨ab, 0, none⟩ = some (.int .i64 (g 18)) := (cell_of_heap (HY2.out.heap 5 rfl) 0).trans rfl
  have zab : ab < Y2.heap.size := HY2.out.lt 5 rfl
  have k2 := small_ves (HY2.out.below ((Below.refl _ _).alloc (Nat.le_refl _) _)) (heap_alloc_new Y2 (.cells #[.int .i64 2, .int .i64 2000, .bool false, .int .i64 (g 16), .int .i64 (g 17), .int .i64 (g 14), .int .i64 (g 15), .bool false, .int .i64 2, .int .i64 4] 31))
  have K2 := Lib.hid k2
  clear k2
  go_wp2_with fail
  refine K2.out.mono ?_
  rintro e Y3 ⟨rfl, b4⟩
  have HB3 := (HY2.out.below (((Below.refl _ _).alloc (Nat.le_refl _) _).trans (b4.mono (by simp)))).bel
  have HY3 := Lib.hid HB3
  clear b4 HB3 K2
  clear cpb0 cpb1 cpb2 cpb3 cpb4 zpb cxb0 cxb1 cxb2 zxb cyb0 cyb1 cyb2 cyb3 cyb4 zyb cab0 zab
  have ew : IntKind.i64.wrap ((n : Int) + 1) = (n : Int) + 1 := IntWalk.i64_in _ (by omega)
  go_wp2_with fail
  exact HI.out _ _ _ _ _ _ _ _ _ _ _ _ _ _ _ _ _ _ _ _ _ _ _ _ _ _ _ _ _ _ _ _ _ _ _ _ _ _ _ _ _ _ _ _ _ _ _ _ _ _ _ _ _ _ _ _ _ _ _ _ _ _ _ _ _ _ _ _ _ _ _ _ _ _ _ _ _ _ _ _ _ _ _ _ _ _ _ _ _ _ _ _ _ _ _ HY3.out
end Go.Proofs.YtbgnkljjgfcngaaGreat
