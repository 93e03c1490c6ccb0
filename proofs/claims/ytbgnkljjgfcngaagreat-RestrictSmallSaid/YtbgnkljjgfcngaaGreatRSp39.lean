/- A round of RestrictSmall's loop over the numbers of ices (printed by wip/tools/small2.py) -/
import Derived.Test.YtbgnkljjgfcngaaGreatRSp37
import Derived.Test.YtbgnkljjgfcngaaGreatRSp2
import Derived.Deep.DeepCutAuto
import Derived.IntWalk
import Derived.Test.YtbgnkljjgfcngaaGreatRSp38
set_option linter.unusedVariables false
set_option linter.unusedSimpArgs false
namespace Go.Proofs.YtbgnkljjgfcngaaGreat
open Go Go.RowKit Sp
set_option linter.unusedVariables false

set_option linter.unusedVariables false
def Sm2V (X : World) (lb cb jb gb hb nb : Nat) : Nat → Value → Prop
  | 0, v => v = .pointer (some ⟨jb, 0, none⟩)
  | 1, v => v = .pointer (some ⟨jb, 1, none⟩)
  | 2, v => v = .pointer (some ⟨jb, 2, none⟩)
  | 3, v => v = .pointer (some ⟨jb, 3, none⟩)
  | 4, v => v = .slice (some ⟨lb, 0, none⟩) 3 3
  | 5, v => v = .pointer (some ⟨lb, 2, none⟩)
  | 6, v => v = .pointer (some ⟨lb, 2, none⟩)
  | 7, v => v = .slice (some ⟨lb, 0, none⟩) 3 3
  | 8, v => v = .pointer (some ⟨lb, 4, none⟩)
  | 9, v => v = .pointer (some ⟨lb, 5, none⟩)
  | 10, v => v = .slice (some ⟨cb, 0, none⟩) 2 2
  | 11, v => v = .pointer (some ⟨cb, 1, none⟩)
  | 12, v => v = .pointer (some ⟨hb, 3, none⟩)
  | 13, v => v = .slice (some ⟨gb, 0, none⟩) 2 2
  | 14, v => v = .pointer (some ⟨gb, 8, none⟩)
  | 15, v => v = .pointer (some ⟨gb, 10, none⟩)
  | 16, v => v = .pointer (some ⟨gb, 11, none⟩)
  | 17, v => v = .slice (some ⟨nb, 0, none⟩) 8 8
  | 18, v => v = .slice (some ⟨nb, 0, none⟩) 8 8
  | _, _ => True
def Sm2W (X : World) (lb cb jb gb hb nb : Nat) (l : Nat → Bool) (w : World) : Prop := (l 17 = false → w.heap.size = X.heap.size) ∧ (l 17 = true → w.heap[nb]? = some (.cells #[.pointer (some ⟨jb, 0, none⟩), .pointer (some ⟨jb, 1, none⟩), .pointer (some ⟨jb, 2, none⟩), .pointer (some ⟨jb, 3, none⟩), .pointer (some ⟨lb, 2, none⟩), .pointer (some ⟨lb, 5, none⟩), .pointer (some ⟨cb, 1, none⟩), .pointer (some ⟨gb, 11, none⟩)] 34 (0, 0))) ∧ Below X.heap.size X w
set_option linter.unusedVariables false
def Sm3V (Y : World) (lb cb jb gb hb : Nat) (g : Nat → Int) (n : Nat) (m : Int) (s : Nat) : Nat → Value → Prop
  | 0, v => v = .agg #[.slice (some ⟨s, 0, none⟩) 3 3, .int .i64 2, .int .i64 3, .int .i64 1, .int .i64 2]
  | 1, v => v = .slice (some ⟨lb, 0, none⟩) 3 3
  | 2, v => v = .agg #[.int .i64 2, .int .i64 3000, .bool false]
  | 3, v => v = .int .i64 n
  | 4, v => v = .int .i64 m
  | 5, v => v = .agg #[.int .i64 (g 0), .int .i64 (g 1), .int .i64 (g 2), .int .i64 (g 3)]
  | 6, v => v = .agg #[.int .i64 2, .int .i64 1, .int .i64 7, .slice (some ⟨gb, 0, none⟩) 2 2]
  | 7, v => v = .slice (some ⟨cb, 0, none⟩) 2 2
  | 8, v => v = .bool true
  | 9, v => v = .bool false
  | _, _ => True
def Sm3W (Y : World) (lb cb jb gb hb : Nat) (g : Nat → Int) (n : Nat) (m : Int) (s : Nat) (l : Nat → Bool) (w : World) : Prop := Below Y.heap.size Y w ∧ (l 0 = true → ExAt s w)
set_option maxRecDepth 100000 in
set_option maxHeartbeats 4000000 in
theorem small2 {wr : World} {v : Int} {n : Nat} (hv : -9223372036854775808 ≤ v) (hlt : n < 8) {s0 s1 s3 s4 s5 s6 s7 s8 s9 s10 s11 s13 s14 s15 s16 s17 s18 s19 s20 s21 s22 s23 s24 s25 s26 s27 s28 s29 s30 s31 s32 s33 s34 s35 s36 s37 s38 s39 s40 s41 s42 s43 s44 s45 s46 s47 s48 s49 s50 s51 s52 s53 s54 s55 s56 s57 s58 s59 s60 s61 s62 s63 s64 s65 s66 s67 s68 s69 s70 s71 s72 s73 s74 s75 s76 s77 s78 s79 s80 s81 s82 s83 s84 s85 s86 s87 s88 s89 s90 s91 s92 s93 s94 s95 s96 s97 s98 s99 s100 s101 s102 s103 s104 s105 s106 s107 s108 s109 s110 s111 s112 s113 s114 s115 s116 s117 s118 s119 s120 s121 s122 s123 s124 s125 s126 s127 s128 s129 s130 s131 s132 s133 s134 s135 s136 s137 s138 s139 s140 s141 s142 s143 s144 s145 s146 s147 s148 s149 s150 s151 s152 s153 s154 s155 s156 s157 s158 s159 s160 s161 s162 s163 s164 s165 s166 s167 s168 s169 s170 s171 s172 s173 s174 s175 s176 s177 s178 s179 s180 s181 s182 s183 s184 s185 s186 s187 s188 s189 s190 s191 s192 s193 s194 s195 s196 s197 s198 s199 s200 s201 s202 s203 s204 s205 s206 s207 s208 s209 s210 s211 s212 s213 s214 s215 s216 s217 s218 s219 s220 s221 s222 s223 s224 s225 s226 s227 s228 s229 s230 s231 s232 s233 s234 s235 s236 s237 s238 s239 s240 s241 s242 s243 s244 s245 s246 s247 s248 s249 s250 s251 s252 s253 s254 s255 s256 s257 s258 s259 s260 s261 s262 s263 s264 s265 s266 s267 s268 s269 s270 s271 s272 s273 s274 s275 s276 s277 s278 s279 s280 s281 s282 s283 s284 s285 s286 s287 s288 s289 s290 s291 s292 s293 s294 s295 s296 s297 s298 s299 s300 s301 s302 s303 s304 s305 s306 s307 s308 s309 s310 s311 s312 s313 s314 s315 s316 s317 s318 s319 s320 s321 s322 s323 s324 s325 s326 s327 s328 s329 s330 s331 s332 s333 s334 s335 s336 s337 s338 s339 s340 s341 s342 s343 s344 s345 s346 s347 s348 s349 s350 s351 s352 s353 s354 : Value} {Q0 : Exit → Act → World → Prop} {Inv : Act → World → Prop}
    (hInv : ∀ (t0 t13 t14 t15 t16 t17 t18 t125 t126 t127 t128 t129 t130 t131 t132 t133 t134 t135 t136 t137 t138 t139 t140 t141 t142 t143 t144 t145 t146 t147 t148 t149 t150 t151 t152 t153 t154 t155 t156 t157 t158 t159 t160 t161 t162 t163 t164 t165 t166 t167 t168 t169 t170 t171 t172 t173 t174 t175 t176 t177 t178 t179 t180 : Value)  (w' : World), Below wr.heap.size wr w' → Inv ⟨#[t0, s1, .int .i64 v, s3, s4, s5, s6, s7, s8, s9, s10, s11, .int .i64 ((n : Int) + 1), t13, t14, t15, t16, t17, t18, s19, s20, s21, s22, s23, s24, s25, s26, s27, s28, s29, s30, s31, s32, s33, s34, s35, s36, s37, s38, s39, s40, s41, s42, s43, s44, s45, s46, s47, s48, s49, s50, s51, s52, s53, s54, s55, s56, s57, s58, s59, s60, s61, s62, s63, s64, s65, s66, s67, s68, s69, s70, s71, s72, s73, s74, s75, s76, s77, s78, s79, s80, s81, s82, s83, s84, s85, s86, s87, s88, s89, s90, s91, s92, s93, s94, s95, s96, s97, s98, s99, s100, s101, s102, s103, s104, s105, s106, s107, s108, s109, s110, s111, s112, s113, s114, s115, s116, s117, s118, s119, s120, s121, s122, s123, s124, t125, t126, t127, t128, t129, t130, t131, t132, t133, t134, t135, t136, t137, t138, t139, t140, t141, t142, t143, t144, t145, t146, t147, t148, t149, t150, t151, t152, t153, t154, t155, t156, t157, t158, t159, t160, t161, t162, t163, t164, t165, t166, t167, t168, t169, t170, t171, t172, t173, t174, t175, t176, t177, t178, t179, t180, s181, s182, s183, s184, s185, s186, s187, s188, s189, s190, s191, s192, s193, s194, s195, s196, s197, s198, s199, s200, s201, s202, s203, s204, s205, s206, s207, s208, s209, s210, s211, s212, s213, s214, s215, s216, s217, s218, s219, s220, s221, s222, s223, s224, s225, s226, s227, s228, s229, s230, s231, s232, s233, s234, s235, s236, s237, s238, s239, s240, s241, s242, s243, s244, s245, s246, s247, s248, s249, s250, s251, s252, s253, s254, s255, s256, s257, s258, s259, s260, s261, s262, s263, s264, s265, s266, s267, s268, s269, s270, s271, s272, s273, s274, s275, s276, s277, s278, s279, s280, s281, s282, s283, s284, s285, s286, s287, s288, s289, s290, s291, s292, s293, s294, s295, s296, s297, s298, s299, s300, s301, s302, s303, s304, s305, s306, s307, s308, s309, s310, s311, s312, s313, s314, s315, s316, s317, s318, s319, s320, s321, s322, s323, s324, s325, s326, s327, s328, s329, s330, s331, s332, s333, s334, s335, s336, s337, s338, s339, s340, s341, s342, s343, s344, s345, s346, s347, s348, s349, s350, s351, s352, s353, s354], []⟩ w') :
    Code.wp Tryz.prog (loopBody Tryz.f3 2) (Exit.then Inv Q0) ⟨#[s0, s1, .int .i64 v, s3, s4, s5, s6, s7, s8, s9, s10, s11, .int .i64 n, s13, s14, s15, s16, s17, s18, s19, s20, s21, s22, s23, s24, s25, s26, s27, s28, s29, s30, s31, s32, s33, s34, s35, s36, s37, s38, s39, s40, s41, s42, s43, s44, s45, s46, s47, s48, s49, s50, s51, s52, s53, s54, s55, s56, s57, s58, s59, s60, s61, s62, s63, s64, s65, s66, s67, s68, s69, s70, s71, s72, s73, s74, s75, s76, s77, s78, s79, s80, s81, s82, s83, s84, s85, s86, s87, s88, s89, s90, s91, s92, s93, s94, s95, s96, s97, s98, s99, s100, s101, s102, s103, s104, s105, s106, s107, s108, s109, s110, s111, s112, s113, s114, s115, s116, s117, s118, s119, s120, s121, s122, s123, s124, s125, s126, s127, s128, s129, s130, s131, s132, s133, s134, s135, s136, s137, s138, s139, s140, s141, s142, s143, s144, s145, s146, s147, s148, s149, s150, s151, s152, s153, s154, s155, s156, s157, s158, s159, s160, s161, s162, s163, s164, s165, s166, s167, s168, s169, s170, s171, s172, s173, s174, s175, s176, s177, s178, s179, s180, s181, s182, s183, s184, s185, s186, s187, s188, s189, s190, s191, s192, s193, s194, s195, s196, s197, s198, s199, s200, s201, s202, s203, s204, s205, s206, s207, s208, s209, s210, s211, s212, s213, s214, s215, s216, s217, s218, s219, s220, s221, s222, s223, s224, s225, s226, s227, s228, s229, s230, s231, s232, s233, s234, s235, s236, s237, s238, s239, s240, s241, s242, s243, s244, s245, s246, s247, s248, s249, s250, s251, s252, s253, s254, s255, s256, s257, s258, s259, s260, s261, s262, s263, s264, s265, s266, s267, s268, s269, s270, s271, s272, s273, s274, s275, s276, s277, s278, s279, s280, s281, s282, s283, s284, s285, s286, s287, s288, s289, s290, s291, s292, s293, s294, s295, s296, s297, s298, s299, s300, s301, s302, s303, s304, s305, s306, s307, s308, s309, s310, s311, s312, s313, s314, s315, s316, s317, s318, s319, s320, s321, s322, s323, s324, s325, s326, s327, s328, s329, s330, s331, s332, s333, s334, s335, s336, s337, s338, s339, s340, s341, s342, s343, s344, s345, s346, s347, s348, s349, s350, s351, s352, s353, s354], []⟩ wr := by
  conv => arg 2; whnf
  have HI := Lib.hid hInv
  have HV := Lib.hid (And.intro hv hlt)
  have hlt' : (n : Int) < 8 := by omega
  clear hInv hv
  go_upto_region 17 with fail
  obtain ⟨V, hV⟩ : ∃ V, V = (((wr.alloc (.cells #[.int .i64 90, .int .i64 210, .int .i64 100, .int .i64 150, .int .i64 0, .int .i64 220] 33)).alloc (.cells #[.int .i64 0, .int .i64 1] 3)).alloc (.cells #[.int .i64 80, .int .i64 60, .int .i64 3, .int .i64 1] 45)) := ⟨_, rfl⟩
  obtain ⟨lb, hlb⟩ : ∃ b, b = wr.heap.size := ⟨_, rfl⟩
  obtain ⟨cb, hcb⟩ : ∃ b, b = wr.heap.size + 1 := ⟨_, rfl⟩
  obtain ⟨jb, hjb⟩ : ∃ b, b = wr.heap.size + 1 + 1 := ⟨_, rfl⟩
  have B0 := ((((Blks.nil wr).alloc (.cells #[.int .i64 90, .int .i64 210, .int .i64 100, .int .i64 150, .int .i64 0, .int .i64 220] 33)).alloc (.cells #[.int .i64 0, .int .i64 1] 3)).alloc (.cells #[.int .i64 80, .int .i64 60, .int .i64 3, .int .i64 1] 45))
  simp only [World.size_alloc] at B0
  rw [← hV, ← hjb, ← hcb, ← hlb] at B0
  rw [← hV, ← hjb, ← hcb, ← hlb]
  have HB0 := Lib.hid B0
  have HLB := Lib.hid hlb
  clear hV hjb hcb hlb B0
  go_wp2_with fail
  refine (blank_ok 2 1 7 2 rfl rfl V).mono ?_
  rintro e w1 ⟨gb, rfl, ⟨cur, hg, hr⟩, gg, b1⟩
  rw [rep_two hr] at hg
  have B1 := (HB0.out.new b1 hg gg).alloc (.cells #[.int .i64 2, .int .i64 1, .int .i64 7, .slice (some ⟨gb, 0, none⟩) 2 2] 49)
  have HB1 := Lib.hid B1
  clear hg hr gg b1 B1
  go_upto_region 18 with fail
  obtain ⟨X, hX⟩ : ∃ X, X = w1.alloc (.cells #[.int .i64 2, .int .i64 1, .int .i64 7, .slice (some ⟨gb, 0, none⟩) 2 2] 49) := ⟨_, rfl⟩
  obtain ⟨hb, hhb⟩ : ∃ b, b = w1.heap.size := ⟨_, rfl⟩
  rw [← hX, ← hhb] at HB1 ⊢
  have HX : Blks _ wr (numR lb cb jb gb hb numR0) X := HB1.out
  have HBX := Lib.hid HX
  have h3 : X.cell? ⟨hb, 3, none⟩ = some (.slice (some ⟨gb, 0, none⟩) 2 2) := (cell_of_heap (HX.heap 4 rfl) 3).trans rfl
  have zh : hb < X.heap.size := HX.lt 4 rfl
  clear hX HX hhb
  obtain ⟨nb, hnb⟩ : ∃ b, b = X.heap.size := ⟨_, rfl⟩
  go_upto_region 20 with fail
  refine wp_region_steps (σ := Unit) (by kernel_rfl) (by kernel_rfl) (fun _ jx vx _ => Sm2V X lb cb jb gb hb nb jx vx) (fun _ ly wx => Sm2W X lb cb jb gb hb nb ly wx) () ?_ ?_ ?_
  · exact ⟨fun _ => rfl, (fun h => by cases h), (Below.refl _ _).drew⟩
  · simp only [AllFrom, Nat.zero_add, Nat.reduceAdd]
    refine ⟨?_, ?_, ?_, ?_, ?_, ?_, ?_, ?_, ?_, ?_, ?_, ?_, ?_, ?_, ?_, ?_, ?_, ?_, ?_, trivial⟩
    · refine step_pure fun sg ly a wr hl hd hW hF => ?_
      have et13 := hF.old 13 (by kernel_rfl)
      simp [Act.eval] at et13
      exact ⟨by simpa [Sm2W, upd] using hW, .pointer (some ⟨jb, 0, none⟩), by go_simp, rfl⟩
    · refine step_pure fun sg ly a wr hl hd hW hF => ?_
      have et13 := hF.old 13 (by kernel_rfl)
      simp [Act.eval] at et13
      exact ⟨by simpa [Sm2W, upd] using hW, .pointer (some ⟨jb, 1, none⟩), by go_simp, rfl⟩
    · refine step_pure fun sg ly a wr hl hd hW hF => ?_
      have et13 := hF.old 13 (by kernel_rfl)
      simp [Act.eval] at et13
      exact ⟨by simpa [Sm2W, upd] using hW, .pointer (some ⟨jb, 2, none⟩), by go_simp, rfl⟩
    · refine step_pure fun sg ly a wr hl hd hW hF => ?_
      have et13 := hF.old 13 (by kernel_rfl)
      simp [Act.eval] at et13
      exact ⟨by simpa [Sm2W, upd] using hW, .pointer (some ⟨jb, 3, none⟩), by go_simp, rfl⟩
    · refine step_pure fun sg ly a wr hl hd hW hF => ?_
      have et14 := hF.old 14 (by kernel_rfl)
      simp [Act.eval] at et14
      exact ⟨by simpa [Sm2W, upd] using hW, .slice (some ⟨lb, 0, none⟩) 3 3, by go_simp, rfl⟩
    · refine step_pure fun sg ly a wr hl hd hW hF => ?_
      simp [Region.binds] at hd
      have et151 := hF.new 4 151 (by simp [hd]) rfl
      simp [Sm2V, Act.eval] at et151
      exact ⟨by simpa [Sm2W, upd] using hW, .pointer (some ⟨lb, 2, none⟩), by go_simp, rfl⟩
    · refine step_pure fun sg ly a wr hl hd hW hF => ?_
      simp [Region.binds] at hd
      have et152 := hF.new 5 152 (by simp [hd]) rfl
      simp [Sm2V, Act.eval] at et152
      exact ⟨by simpa [Sm2W, upd] using hW, .pointer (some ⟨lb, 2, none⟩), by go_simp, rfl⟩
    · refine step_pure fun sg ly a wr hl hd hW hF => ?_
      have et14 := hF.old 14 (by kernel_rfl)
      simp [Act.eval] at et14
      exact ⟨by simpa [Sm2W, upd] using hW, .slice (some ⟨lb, 0, none⟩) 3 3, by go_simp, rfl⟩
    · refine step_pure fun sg ly a wr hl hd hW hF => ?_
      simp [Region.binds] at hd
      have et154 := hF.new 7 154 (by simp [hd]) rfl
      simp [Sm2V, Act.eval] at et154
      exact ⟨by simpa [Sm2W, upd] using hW, .pointer (some ⟨lb, 4, none⟩), by go_simp, rfl⟩
    · refine step_pure fun sg ly a wr hl hd hW hF => ?_
      simp [Region.binds] at hd
      have et155 := hF.new 8 155 (by simp [hd]) rfl
      simp [Sm2V, Act.eval] at et155
      exact ⟨by simpa [Sm2W, upd] using hW, .pointer (some ⟨lb, 5, none⟩), by go_simp, rfl⟩
    · refine step_pure fun sg ly a wr hl hd hW hF => ?_
      have et15 := hF.old 15 (by kernel_rfl)
      simp [Act.eval] at et15
      exact ⟨by simpa [Sm2W, upd] using hW, .slice (some ⟨cb, 0, none⟩) 2 2, by go_simp, rfl⟩
    · refine step_pure fun sg ly a wr hl hd hW hF => ?_
      simp [Region.binds] at hd
      have et157 := hF.new 10 157 (by simp [hd]) rfl
      simp [Sm2V, Act.eval] at et157
      exact ⟨by simpa [Sm2W, upd] using hW, .pointer (some ⟨cb, 1, none⟩), by go_simp, rfl⟩
    · refine step_pure fun sg ly a wr hl hd hW hF => ?_
      have et16 := hF.old 16 (by kernel_rfl)
      simp [Act.eval] at et16
      exact ⟨by simpa [Sm2W, upd] using hW, .pointer (some ⟨hb, 3, none⟩), by go_simp, rfl⟩
    · refine step_pure fun sg ly a wx hl hd hW hF => ?_
      simp [Region.binds] at hd
      have et159 := hF.new 12 159 (by simp [hd]) rfl
      simp [Sm2V, Act.eval] at et159
      have cL := (hW.2.2.cell (p := ⟨hb, 3, none⟩) zh).trans h3
      exact ⟨by simpa [Sm2W, upd] using hW, .slice (some ⟨gb, 0, none⟩) 2 2, by go_simp, rfl⟩
    · refine step_pure fun sg ly a wr hl hd hW hF => ?_
      simp [Region.binds] at hd
      have et160 := hF.new 13 160 (by simp [hd]) rfl
      simp [Sm2V, Act.eval] at et160
      exact ⟨by simpa [Sm2W, upd] using hW, .pointer (some ⟨gb, 8, none⟩), by go_simp, rfl⟩
    · refine step_pure fun sg ly a wr hl hd hW hF => ?_
      simp [Region.binds] at hd
      have et161 := hF.new 14 161 (by simp [hd]) rfl
      simp [Sm2V, Act.eval] at et161
      exact ⟨by simpa [Sm2W, upd] using hW, .pointer (some ⟨gb, 10, none⟩), by go_simp, rfl⟩
    · refine step_pure fun sg ly a wr hl hd hW hF => ?_
      simp [Region.binds] at hd
      have et162 := hF.new 15 162 (by simp [hd]) rfl
      simp [Sm2V, Act.eval] at et162
      exact ⟨by simpa [Sm2W, upd] using hW, .pointer (some ⟨gb, 11, none⟩), by go_simp, rfl⟩
    · refine step_run fun sg ly a wx hl hd hW hF => ?_
      simp [Region.binds] at hd
      have et147 := hF.new 0 147 (by simp [hd]) rfl
      simp [Sm2V, Act.eval] at et147
      have et148 := hF.new 1 148 (by simp [hd]) rfl
      simp [Sm2V, Act.eval] at et148
      have et149 := hF.new 2 149 (by simp [hd]) rfl
      simp [Sm2V, Act.eval] at et149
      have et150 := hF.new 3 150 (by simp [hd]) rfl
      simp [Sm2V, Act.eval] at et150
      have et153 := hF.new 6 153 (by simp [hd]) rfl
      simp [Sm2V, Act.eval] at et153
      have et156 := hF.new 9 156 (by simp [hd]) rfl
      simp [Sm2V, Act.eval] at et156
      have et158 := hF.new 11 158 (by simp [hd]) rfl
      simp [Sm2V, Act.eval] at et158
      have et163 := hF.new 16 163 (by simp [hd]) rfl
      simp [Sm2V, Act.eval] at et163
      have hs := hW.1 hl
      refine ⟨.slice (some ⟨nb, 0, none⟩) 8 8, wx.alloc (.cells #[.pointer (some ⟨jb, 0, none⟩), .pointer (some ⟨jb, 1, none⟩), .pointer (some ⟨jb, 2, none⟩), .pointer (some ⟨jb, 3, none⟩), .pointer (some ⟨lb, 2, none⟩), .pointer (some ⟨lb, 5, none⟩), .pointer (some ⟨cb, 1, none⟩), .pointer (some ⟨gb, 11, none⟩)] 34), (), ?_, ⟨fun h => by simp [upd] at h, fun _ => ?_, hW.2.2.alloc hW.2.2.size _⟩, rfl, fun _ _ _ h => h⟩
      · rw [show nb = wx.heap.size by rw [hs, hnb]]; go_simp
      · have hh := heap_alloc_new wx (.cells #[.pointer (some ⟨jb, 0, none⟩), .pointer (some ⟨jb, 1, none⟩), .pointer (some ⟨jb, 2, none⟩), .pointer (some ⟨jb, 3, none⟩), .pointer (some ⟨lb, 2, none⟩), .pointer (some ⟨lb, 5, none⟩), .pointer (some ⟨cb, 1, none⟩), .pointer (some ⟨gb, 11, none⟩)] 34)
        rw [hs, ← hnb] at hh
        exact hh
    · refine step_pure fun sg ly a wr hl hd hW hF => ?_
      simp [Region.binds] at hd
      have et164 := hF.new 17 164 (by simp [hd]) rfl
      simp [Sm2V, Act.eval] at et164
      exact ⟨by simpa [Sm2W, upd] using hW, .slice (some ⟨nb, 0, none⟩) 8 8, by go_simp, rfl⟩
  intro _ a w5 hW hF
  have e18 := hF.new 18 18 (by decide) rfl
  obtain ⟨fr, hf, rfl⟩ := hF.lit
  rw [← hf] at e18
  simp only [Sm2V] at e18
  have hnh := hW.2.1 (by decide)
  have HB5 := HBX.out.below hW.2.2
  obtain ⟨b, o, g, x, q1, q2, q3, q4, q5, q6⟩ := numR_store HB5 HV.out.2 HV.out.1 numR0_ge
  have q0 : w5.cell? ⟨nb, n, none⟩ = some (.pointer (some ⟨b, o, none⟩)) := (cell_of_heap hnh n).trans (numR_ptr (hb := hb) q1)
  have zn := heap_lt hnh
  have HG := Lib.hid (And.intro q5 q6)
  clear hf hF hW hnh HB5 q1 q5 q6 h3 zh hnb
  simp only [List.filterMap, List.foldl, List.setIfInBounds_toArray, List.set_cons_succ, List.set_cons_zero, e18]
  clear e18
  go_upto_region 22 with fail
  obtain ⟨Y, hY⟩ : ∃ Y, Y = w5.setCell ⟨b, o, none⟩ (.int .i64 v) := ⟨_, rfl⟩
  rw [← hY] at HG ⊢
  clear hY q0 q2 q3 q4 zn
  have zj : jb < Y.heap.size := HG.out.1.lt 2 rfl
  have zh : hb < Y.heap.size := HG.out.1.lt 4 rfl
  have j0 : Y.cell? ⟨jb, 0, none⟩ = some (.int .i64 (g 0)) := (cell_of_heap (HG.out.1.heap 2 rfl) 0).trans rfl
  have j1 : Y.cell? ⟨jb, 1, none⟩ = some (.int .i64 (g 1)) := (cell_of_heap (HG.out.1.heap 2 rfl) 1).trans rfl
  have j2 : Y.cell? ⟨jb, 2, none⟩ = some (.int .i64 (g 2)) := (cell_of_heap (HG.out.1.heap 2 rfl) 2).trans rfl
  have j3 : Y.cell? ⟨jb, 3, none⟩ = some (.int .i64 (g 3)) := (cell_of_heap (HG.out.1.heap 2 rfl) 3).trans rfl
  have h0 : Y.cell? ⟨hb, 0, none⟩ = some (.int .i64 2) := (cell_of_heap (HG.out.1.heap 4 rfl) 0).trans rfl
  have h1 : Y.cell? ⟨hb, 1, none⟩ = some (.int .i64 1) := (cell_of_heap (HG.out.1.heap 4 rfl) 1).trans rfl
  have h2 : Y.cell? ⟨hb, 2, none⟩ = some (.int .i64 7) := (cell_of_heap (HG.out.1.heap 4 rfl) 2).trans rfl
  have h3 : Y.cell? ⟨hb, 3, none⟩ = some (.slice (some ⟨gb, 0, none⟩) 2 2) := (cell_of_heap (HG.out.1.heap 4 rfl) 3).trans rfl
  obtain ⟨m, hm⟩ : ∃ m, (n : Int).tmod 3 = m := ⟨_, rfl⟩
  refine wp_region_steps (σ := Nat) (by kernel_rfl) (by kernel_rfl) (fun sg jx vx _ => Sm3V Y lb cb jb gb hb g n m sg jx vx) (fun sg ly wx => Sm3W Y lb cb jb gb hb g n m sg ly wx) 0 ?_ ?_ ?_
  · exact ⟨(Below.refl _ _).drew, fun h => by cases h⟩
  · simp only [AllFrom, Nat.zero_add, Nat.reduceAdd]
    refine ⟨?_, ?_, ?_, ?_, ?_, ?_, ?_, ?_, ?_, ?_, trivial⟩
    · refine step_call fun sg ly a wx hl hd hW hF => ?_
      refine ⟨4, #[], by go_simp, (Example_new wx).mono ?_⟩
      rintro e w2 ⟨b, rfl, hs, gs, b1⟩
      refine ⟨_, b, rfl, ⟨hW.1.trans (b1.mono hW.1.size), fun _ => hs⟩, rfl, ?_⟩
      intro i u hi h
      have i0 : i ≠ 0 := by rintro rfl; rw [hl] at hi; cases hi
      unfold Sm3V at h ⊢
      split at h <;> first | exact h | exact absurd rfl i0
    · refine step_pure fun sg ly a wr hl hd hW hF => ?_
      have et14 := hF.old 14 (by kernel_rfl)
      simp [Act.eval] at et14
      exact ⟨by simpa [Sm3W, upd] using hW, .slice (some ⟨lb, 0, none⟩) 3 3, by go_simp, rfl⟩
    · refine step_pure fun sg ly a wr hl hd hW hF => ?_
      exact ⟨by simpa [Sm3W, upd] using hW, .agg #[.int .i64 2, .int .i64 3000, .bool false], by go_simp, rfl⟩
    · refine step_pure fun sg ly a wr hl hd hW hF => ?_
      have et12 := hF.old 12 (by kernel_rfl)
      simp [Act.eval] at et12
      exact ⟨by simpa [Sm3W, upd] using hW, .int .i64 n, by go_simp, rfl⟩
    · refine step_pure fun sg ly a wx hl hd hW hF => ?_
      simp [Region.binds] at hd
      have et174 := hF.new 3 174 (by simp [hd]) rfl
      simp [Sm3V, Act.eval] at et174
      exact ⟨by simpa [Sm3W, upd] using hW, .int .i64 m, by go_simp, rfl⟩
    · refine step_pure fun sg ly a wx hl hd hW hF => ?_
      have et13 := hF.old 13 (by kernel_rfl)
      simp [Act.eval] at et13
      have d0 := (hW.1.cell (p := ⟨jb, 0, none⟩) zj).trans j0
      have d1 := (hW.1.cell (p := ⟨jb, 1, none⟩) zj).trans j1
      have d2 := (hW.1.cell (p := ⟨jb, 2, none⟩) zj).trans j2
      have d3 := (hW.1.cell (p := ⟨jb, 3, none⟩) zj).trans j3
      exact ⟨by simpa [Sm3W, upd] using hW, .agg #[.int .i64 (g 0), .int .i64 (g 1), .int .i64 (g 2), .int .i64 (g 3)], by go_simp, rfl⟩
    · refine step_pure fun sg ly a wx hl hd hW hF => ?_
      have et16 := hF.old 16 (by kernel_rfl)
      simp [Act.eval] at et16
      have d0 := (hW.1.cell (p := ⟨hb, 0, none⟩) zh).trans h0
      have d1 := (hW.1.cell (p := ⟨hb, 1, none⟩) zh).trans h1
      have d2 := (hW.1.cell (p := ⟨hb, 2, none⟩) zh).trans h2
      have d3 := (hW.1.cell (p := ⟨hb, 3, none⟩) zh).trans h3
      exact ⟨by simpa [Sm3W, upd] using hW, .agg #[.int .i64 2, .int .i64 1, .int .i64 7, .slice (some ⟨gb, 0, none⟩) 2 2], by go_simp, rfl⟩
    · refine step_pure fun sg ly a wr hl hd hW hF => ?_
      have et15 := hF.old 15 (by kernel_rfl)
      simp [Act.eval] at et15
      exact ⟨by simpa [Sm3W, upd] using hW, .slice (some ⟨cb, 0, none⟩) 2 2, by go_simp, rfl⟩
    · refine step_call fun sg ly a wx hl hd hW hF => ?_
      simp [Region.binds] at hd
      have et171 := hF.new 0 171 (by simp [hd]) rfl
      simp [Sm3V, Act.eval] at et171
      have et172 := hF.new 1 172 (by simp [hd]) rfl
      simp [Sm3V, Act.eval] at et172
      have et173 := hF.new 2 173 (by simp [hd]) rfl
      simp [Sm3V, Act.eval] at et173
      have et175 := hF.new 4 175 (by simp [hd]) rfl
      simp [Sm3V, Act.eval] at et175
      have et176 := hF.new 5 176 (by simp [hd]) rfl
      simp [Sm3V, Act.eval] at et176
      have et177 := hF.new 6 177 (by simp [hd]) rfl
      simp [Sm3V, Act.eval] at et177
      have et178 := hF.new 7 178 (by simp [hd]) rfl
      simp [Sm3V, Act.eval] at et178
      have y0 : ly 0 = true := by simp [hd]
      refine ⟨9, #[.agg #[.slice (some ⟨sg, 0, none⟩) 3 3, .int .i64 2, .int .i64 3, .int .i64 1, .int .i64 2], .slice (some ⟨lb, 0, none⟩) 3 3, .agg #[.int .i64 2, .int .i64 3000, .bool false], .int .i64 m, .agg #[.int .i64 (g 0), .int .i64 (g 1), .int .i64 (g 2), .int .i64 (g 3)], .agg #[.int .i64 2, .int .i64 1, .int .i64 7, .slice (some ⟨gb, 0, none⟩) 2 2], .slice (some ⟨cb, 0, none⟩) 2 2], by go_simp, ?_⟩
      refine (small_bnd (HG.out.1.below hW.1) (hW.2 y0) m).mono ?_
      rintro e w2 ⟨rfl, b1⟩
      exact ⟨_, sg, rfl, ⟨hW.1.trans (b1.mono hW.1.size), fun _ => (hW.2 y0).below b1⟩, rfl, fun _ _ _ h => h⟩
    · refine step_pure fun sg ly a wr hl hd hW hF => ?_
      simp [Region.binds] at hd
      have et179 := hF.new 8 179 (by simp [hd]) rfl
      simp [Sm3V, Act.eval] at et179
      exact ⟨by simpa [Sm3W, upd] using hW, .bool false, by go_simp, rfl⟩
  intro sg a w6 hW hF
  have e180 := hF.new 9 180 (by decide) rfl
  obtain ⟨fr, hf, rfl⟩ := hF.lit
  rw [← hf] at e180
  simp only [Sm3V] at e180
  have hY := (HG.out.1.below hW.1).bel
  rw [HLB.out] at hY
  have HY := Lib.hid hY
  clear hf hF hW hY
  simp only [List.filterMap, List.foldl, List.setIfInBounds_toArray, List.set_cons_succ, List.set_cons_zero, e180]
  clear e180
  have ew : IntKind.i64.wrap ((n : Int) + 1) = (n : Int) + 1 := IntWalk.i64_in _ (by omega)
  go_wp2_with fail
  exact HI.out _ _ _ _ _ _ _ _ _ _ _ _ _ _ _ _ _ _ _ _ _ _ _ _ _ _ _ _ _ _ _ _ _ _ _ _ _ _ _ _ _ _ _ _ _ _ _ _ _ _ _ _ _ _ _ _ _ _ _ _ _ _ _ _ HY.out
end Go.Proofs.YtbgnkljjgfcngaaGreat
/- A round of RestrictSmall's outer loop (printed by wip/tools/small.main.py) -/
namespace Go.Proofs.YtbgnkljjgfcngaaGreat
open Go Go.RowKit Sp
set_option linter.unusedVariables false

set_option maxRecDepth 100000 in
set_option maxHeartbeats 4000000 in
theorem smallA {w0 : World} {vb k : Nat} {v : Int} (hk : k < 28) (hv : -9223372036854775808 ≤ v) (hc : w0.cell? ⟨vb, k, none⟩ = some (.int .i64 v)) (hz : vb < w0.heap.size) {s0 s1 s2 s3 s4 s5 s6 s7 s8 s9 s10 s11 s12 s13 s14 s15 s16 s17 s18 s19 s20 s21 s22 s23 s24 s25 s26 s27 s28 s29 s30 s31 s32 s33 s37 s38 s39 s40 s41 s42 s43 s44 s45 s46 s47 s48 s49 s50 s51 s52 s53 s54 s55 s56 s57 s58 s59 s60 s61 s62 s63 s64 s65 s66 s67 s68 s69 s70 s71 s72 s73 s74 s75 s76 s77 s78 s79 s80 s81 s82 s83 s84 s85 s86 s87 s88 s89 s90 s91 s92 s93 s94 s95 s96 s97 s98 s99 s100 s101 s102 s103 s104 s105 s106 s107 s108 s109 s110 s111 s112 s113 s114 s115 s116 s117 s118 s119 s120 s121 s122 s123 s124 s125 s126 s127 s128 s129 s130 s131 s132 s133 s134 s135 s136 s137 s138 s139 s140 s141 s142 s143 s144 s145 s146 s147 s148 s149 s150 s151 s152 s153 s154 s155 s156 s157 s158 s159 s160 s161 s162 s163 s164 s165 s166 s167 s168 s169 s170 s171 s172 s173 s174 s175 s176 s177 s178 s179 s180 s181 s182 s183 s184 s185 s186 s187 s188 s189 s190 s191 s192 s193 s194 s195 s196 s197 s198 s199 s200 s201 s202 s203 s204 s205 s206 s207 s208 s209 s210 s211 s212 s213 s214 s215 s216 s217 s218 s219 s220 s221 s222 s223 s224 s225 s226 s227 s228 s229 s230 s231 s232 s233 s234 s235 s236 s237 s238 s239 s240 s241 s242 s243 s244 s245 s246 s247 s248 s249 s250 s251 s252 s253 s254 s255 s256 s257 s258 s259 s260 s261 s262 s263 s264 s265 s266 s267 s268 s269 s270 s271 s272 s273 s274 s275 s276 s277 s278 s279 s280 s281 s282 s283 s284 s285 s286 s287 s288 s289 s290 s291 s292 s293 s294 s295 s296 s297 s298 s299 s300 s301 s302 s303 s304 s305 s306 s307 s308 s309 s310 s311 s312 s313 s314 s315 s316 s317 s318 s319 s320 s321 s322 s323 s324 s325 s326 s327 s328 s329 s330 s331 s332 s333 s334 s335 s336 s337 s338 s339 s340 s341 s342 s343 s344 s345 s346 s347 s348 s349 s350 s351 s352 s353 s354 : Value} {Q0 : Exit → Act → World → Prop} {Inv : Act → World → Prop}
    (hInv : ∀ (t0 t2 t3 t4 t5 t6 t7 t8 t9 t10 t11 t12 t13 t14 t15 t16 t17 t18 t37 t38 t39 t40 t41 t42 t43 t44 t45 t46 t47 t48 t49 t50 t51 t52 t53 t54 t55 t56 t57 t58 t59 t60 t61 t62 t63 t64 t65 t66 t67 t68 t69 t70 t71 t72 t73 t74 t75 t76 t77 t78 t79 t80 t81 t82 t83 t84 t85 t86 t87 t88 t89 t90 t91 t92 t93 t94 t95 t96 t97 t98 t99 t100 t101 t102 t103 t104 t105 t106 t107 t108 t109 t110 t111 t112 t113 t114 t115 t116 t117 t118 t119 t120 t121 t122 t123 t124 t125 t126 t127 t128 t129 t130 t131 t132 t133 t134 t135 t136 t137 t138 t139 t140 t141 t142 t143 t144 t145 t146 t147 t148 t149 t150 t151 t152 t153 t154 t155 t156 t157 t158 t159 t160 t161 t162 t163 t164 t165 t166 t167 t168 t169 t170 t171 t172 t173 t174 t175 t176 t177 t178 t179 t180 t181 t182 t183 t184 t185 t186 t187 : Value)  (w' : World), Below w0.heap.size w0 w' → Inv ⟨#[t0, s1, t2, t3, t4, t5, t6, t7, t8, t9, t10, t11, t12, t13, t14, t15, t16, t17, t18, s19, s20, s21, s22, s23, s24, s25, s26, s27, s28, s29, s30, s31, s32, s33, .slice (some ⟨vb, 0, none⟩) 28 28, .int .i64 28, .int .i64 ((k : Int) + 1), t37, t38, t39, t40, t41, t42, t43, t44, t45, t46, t47, t48, t49, t50, t51, t52, t53, t54, t55, t56, t57, t58, t59, t60, t61, t62, t63, t64, t65, t66, t67, t68, t69, t70, t71, t72, t73, t74, t75, t76, t77, t78, t79, t80, t81, t82, t83, t84, t85, t86, t87, t88, t89, t90, t91, t92, t93, t94, t95, t96, t97, t98, t99, t100, t101, t102, t103, t104, t105, t106, t107, t108, t109, t110, t111, t112, t113, t114, t115, t116, t117, t118, t119, t120, t121, t122, t123, t124, t125, t126, t127, t128, t129, t130, t131, t132, t133, t134, t135, t136, t137, t138, t139, t140, t141, t142, t143, t144, t145, t146, t147, t148, t149, t150, t151, t152, t153, t154, t155, t156, t157, t158, t159, t160, t161, t162, t163, t164, t165, t166, t167, t168, t169, t170, t171, t172, t173, t174, t175, t176, t177, t178, t179, t180, t181, t182, t183, t184, t185, t186, t187, s188, s189, s190, s191, s192, s193, s194, s195, s196, s197, s198, s199, s200, s201, s202, s203, s204, s205, s206, s207, s208, s209, s210, s211, s212, s213, s214, s215, s216, s217, s218, s219, s220, s221, s222, s223, s224, s225, s226, s227, s228, s229, s230, s231, s232, s233, s234, s235, s236, s237, s238, s239, s240, s241, s242, s243, s244, s245, s246, s247, s248, s249, s250, s251, s252, s253, s254, s255, s256, s257, s258, s259, s260, s261, s262, s263, s264, s265, s266, s267, s268, s269, s270, s271, s272, s273, s274, s275, s276, s277, s278, s279, s280, s281, s282, s283, s284, s285, s286, s287, s288, s289, s290, s291, s292, s293, s294, s295, s296, s297, s298, s299, s300, s301, s302, s303, s304, s305, s306, s307, s308, s309, s310, s311, s312, s313, s314, s315, s316, s317, s318, s319, s320, s321, s322, s323, s324, s325, s326, s327, s328, s329, s330, s331, s332, s333, s334, s335, s336, s337, s338, s339, s340, s341, s342, s343, s344, s345, s346, s347, s348, s349, s350, s351, s352, s353, s354], []⟩ w') :
    Code.wp Tryz.prog (loopBody Tryz.f3 0) (Exit.then Inv Q0) ⟨#[s0, s1, s2, s3, s4, s5, s6, s7, s8, s9, s10, s11, s12, s13, s14, s15, s16, s17, s18, s19, s20, s21, s22, s23, s24, s25, s26, s27, s28, s29, s30, s31, s32, s33, .slice (some ⟨vb, 0, none⟩) 28 28, .int .i64 28, .int .i64 k, s37, s38, s39, s40, s41, s42, s43, s44, s45, s46, s47, s48, s49, s50, s51, s52, s53, s54, s55, s56, s57, s58, s59, s60, s61, s62, s63, s64, s65, s66, s67, s68, s69, s70, s71, s72, s73, s74, s75, s76, s77, s78, s79, s80, s81, s82, s83, s84, s85, s86, s87, s88, s89, s90, s91, s92, s93, s94, s95, s96, s97, s98, s99, s100, s101, s102, s103, s104, s105, s106, s107, s108, s109, s110, s111, s112, s113, s114, s115, s116, s117, s118, s119, s120, s121, s122, s123, s124, s125, s126, s127, s128, s129, s130, s131, s132, s133, s134, s135, s136, s137, s138, s139, s140, s141, s142, s143, s144, s145, s146, s147, s148, s149, s150, s151, s152, s153, s154, s155, s156, s157, s158, s159, s160, s161, s162, s163, s164, s165, s166, s167, s168, s169, s170, s171, s172, s173, s174, s175, s176, s177, s178, s179, s180, s181, s182, s183, s184, s185, s186, s187, s188, s189, s190, s191, s192, s193, s194, s195, s196, s197, s198, s199, s200, s201, s202, s203, s204, s205, s206, s207, s208, s209, s210, s211, s212, s213, s214, s215, s216, s217, s218, s219, s220, s221, s222, s223, s224, s225, s226, s227, s228, s229, s230, s231, s232, s233, s234, s235, s236, s237, s238, s239, s240, s241, s242, s243, s244, s245, s246, s247, s248, s249, s250, s251, s252, s253, s254, s255, s256, s257, s258, s259, s260, s261, s262, s263, s264, s265, s266, s267, s268, s269, s270, s271, s272, s273, s274, s275, s276, s277, s278, s279, s280, s281, s282, s283, s284, s285, s286, s287, s288, s289, s290, s291, s292, s293, s294, s295, s296, s297, s298, s299, s300, s301, s302, s303, s304, s305, s306, s307, s308, s309, s310, s311, s312, s313, s314, s315, s316, s317, s318, s319, s320, s321, s322, s323, s324, s325, s326, s327, s328, s329, s330, s331, s332, s333, s334, s335, s336, s337, s338, s339, s340, s341, s342, s343, s344, s345, s346, s347, s348, s349, s350, s351, s352, s353, s354], []⟩ w0 := by
  conv => arg 2; whnf
  have HI := Lib.hid hInv
  have HV := Lib.hid hv
  have hlt' : (k : Int) < 28 := by omega
  have ewk : IntKind.i64.wrap ((k : Int) + 1) = (k : Int) + 1 := IntWalk.i64_in _ (by omega)
  clear hInv hv hk
  go_wp2_with fail
  clear hc hz
  go_loopw [3] (fun i wr => ∃ n : Nat, n ≤ 22 ∧ i = .int .i64 n ∧ Below w0.heap.size w0 wr) (fun i _ => 22 - (intOf i).toNat)
  case atStart => exact ⟨0, by omega, rfl, Below.refl _ _⟩
  case round =>
    obtain ⟨n, hn, rfl, hb⟩ := hrel
    have HB := Lib.hid hb
    clear hb
    by_cases hl : n < 22
    · refine small1 HV.out hl ?_
      intros
      rename_i w' hr
      refine ⟨?_, by simp [intOf]; omega⟩
      repeat apply Exists.intro
      refine ⟨?_, rfl⟩
      exact ⟨n + 1, by omega, by go_num, HB.out.trans (hr.mono HB.out.size)⟩
    · have hl' : ¬ (n : Int) < 22 := by omega
      clear hn hl
      go_wp2_with fail
      go_loopw [12] (fun i wr => ∃ n : Nat, n ≤ 8 ∧ i = .int .i64 n ∧ Below w0.heap.size w0 wr) (fun i _ => 8 - (intOf i).toNat)
      case atStart => exact ⟨0, by omega, rfl, HB.out⟩
      case round =>
        obtain ⟨n, hn, rfl, hb⟩ := hrel
        have HB := Lib.hid hb
        clear hb
        by_cases hl : n < 8
        · refine small2 HV.out hl ?_
          intros
          rename_i w' hr
          refine ⟨?_, by simp [intOf]; omega⟩
          repeat apply Exists.intro
          refine ⟨?_, rfl⟩
          exact ⟨n + 1, by omega, by go_num, HB.out.trans (hr.mono HB.out.size)⟩
        · have hl' : ¬ (n : Int) < 8 := by omega
          clear hn hl
          go_wp2_with fail
          refine (Example_new _).mono ?_
          rintro e w1 ⟨sb, rfl, hs, gs, b1⟩
          have H1 := Lib.hid (And.intro hs (HB.out.trans (b1.mono HB.out.size)))
          clear hs gs b1
          go_wp2_with fail
          refine (winter_new _).mono ?_
          rintro e w2 ⟨db, rfl, hd, gd, b2⟩
          have H2 := Lib.hid (H1.out.2.trans (b2.mono H1.out.2.size))
          have kl := small_late ((b2.block _ (heap_lt H1.out.1)).trans H1.out.1) hd v
          have KL := Lib.hid kl
          clear hd gd b2 kl
          go_wp2_with fail
          refine KL.out.mono ?_
          rintro e w3 ⟨rfl, b3⟩
          have H3 := Lib.hid (H2.out.trans (b3.mono H2.out.size))
          clear b3 KL
          go_wp2_with fail
          exact HI.out _ _ _ _ _ _ _ _ _ _ _ _ _ _ _ _ _ _ _ _ _ _ _ _ _ _ _ _ _ _ _ _ _ _ _ _ _ _ _ _ _ _ _ _ _ _ _ _ _ _ _ _ _ _ _ _ _ _ _ _ _ _ _ _ _ _ _ _ _ _ _ _ _ _ _ _ _ _ _ _ _ _ _ _ _ _ _ _ _ _ _ _ _ _ _ _ _ _ _ _ _ _ _ _ _ _ _ _ _ _ _ _ _ _ _ _ _ _ _ _ _ _ _ _ _ _ _ _ _ _ _ _ _ _ _ _ _ _ _ _ _ _ _ _ _ _ _ _ _ _ _ _ _ _ _ _ _ _ _ _ _ _ _ _ _ _ _ _ _ _ H3.out
end Go.Proofs.YtbgnkljjgfcngaaGreat
