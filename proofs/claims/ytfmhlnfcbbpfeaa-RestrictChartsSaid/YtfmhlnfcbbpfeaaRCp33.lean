/- RestrictCharts: a day (printed by wip/tools/chd.py) -/
import Derived.Test.YtfmhlnfcbbpfeaaRCp32
import Derived.Test.YtfmhlnfcbbpfeaaRCp28
import Derived.Test.YtfmhlnfcbbpfeaaRCp26
import Derived.Test.YtfmhlnfcbbpfeaaRCp7
import Derived.Test.YtfmhlnfcbbpfeaaRCp13
import Derived.Deep.RegionHeld3
import Derived.Deep.DeepCutAuto
import Derived.Deep.CutRange
import Derived.BigQuiet
set_option linter.unusedVariables false
namespace Go.Proofs.Ytfmhlnfcbbpfeaa
open Go Go.RowKit Go.Lib Sp
set_option linter.unusedVariables false
set_option linter.unusedSimpArgs false

theorem size_day {a c : Int} (ha : 1 ≤ a ∧ a ≤ 4) (hc : 0 ≤ c ∧ c ≤ 10) : sizeE a 1 c = 0 := by
  unfold sizeE
  rw [if_pos]
  simp only [sizeOk, within, Bool.and_eq_true, decide_eq_true_eq]
  omega
theorem chart_day {a c : Int} {l : List Cel} (ha : 1 ≤ a ∧ a ≤ 4) (hc : 0 ≤ c ∧ c ≤ 10) (hl : (l.length : Int) = a) (ho : ∀ x ∈ l, celOk x = true) : chartE a 1 c l = 0 := by
  unfold chartE
  rw [if_neg (fun h => h (size_day ha hc)), if_neg (by omega)]
  unfold celsE
  rw [if_pos (List.all_eq_true.2 ho)]

set_option maxRecDepth 100000 in
theorem charts_x2 {m : Nat} {s0 s1 s2 s3 s4 s5 s6 s7 s8 s9 s10 s11 s12 s13 s14 s15 s16 s17 s18 s19 s20 s21 s22 s23 s24 s25 s26 s27 s28 s29 s30 s31 s32 s33 s34 s35 s36 s37 s38 s39 s40 s41 s42 s43 s44 s45 s46 s47 s48 s49 s50 s51 s52 s53 s54 s55 s56 s57 s58 s59 s60 s61 s62 s63 s64 s65 s66 s67 s68 s69 s70 s71 s72 s73 s74 s75 s76 s77 s78 s79 s80 s81 s82 s83 s84 s85 s86 s87 s88 s89 s90 s91 s92 s93 s94 s95 s96 s97 s98 s99 s100 s101 s102 s105 s106 s107 s108 s109 s110 s111 s112 s113 s114 s115 s116 s117 s118 s119 s120 s121 s122 s123 s124 s125 s126 s127 s128 s129 s130 s131 s132 s133 s134 s135 s136 s137 s138 s139 s140 s141 s142 s143 s144 s145 s146 s147 s148 s149 s150 s151 s152 s153 s154 s155 s156 s157 s158 s159 s160 s161 s162 s163 s164 s165 s166 s167 s168 s169 s170 s171 s172 s173 s174 s175 s176 s177 s178 s179 s180 s181 s182 s183 s184 s185 s186 s187 s188 s189 s190 s191 s192 s193 s194 s195 s196 s197 s198 s199 s200 s201 s202 s203 s204 s205 s206 s207 s208 s209 s210 s211 s212 s213 s214 s215 s216 s217 s218 s219 s220 s221 s222 s223 s224 s225 s226 s227 s228 s229 s230 s231 s232 s233 s234 s235 s236 s237 s238 s239 s240 s241 s242 s243 s244 s245 s246 s247 s248 s249 s250 s251 s252 s253 s254 s255 s256 s257 s258 s259 s260 s261 s262 s263 s264 s265 s266 s267 s268 s269 s270 s271 s272 s273 s274 s275 s276 s277 s278 s279 s280 s281 s282 s283 s284 s285 s286 s287 s288 s289 s290 s291 s292 s293 s294 s295 s296 s297 s298 s299 s300 s301 s302 s303 s304 s305 s306 s307 s308 s309 s310 s311 s312 s313 s314 s315 s316 s317 s318 s319 s320 s321 s322 s323 s324 s325 s326 s327 s328 s329 s330 s331 s332 s333 s334 s335 s336 s337 s338 s339 s340 s341 s342 s343 s344 s345 s346 s347 s348 s349 : Value} {Q0 : Exit → Act → World → Prop} {Inv : Act → World → Prop} {w : World}
    (hQ : Q0 (.exit 4) ⟨#[s0, s1, s2, s3, s4, s5, s6, s7, s8, s9, s10, s11, s12, s13, s14, s15, s16, s17, s18, s19, s20, s21, s22, s23, s24, s25, s26, s27, s28, s29, s30, s31, s32, s33, s34, s35, s36, s37, s38, s39, s40, s41, s42, s43, s44, s45, s46, s47, s48, s49, s50, s51, s52, s53, s54, s55, s56, s57, s58, s59, s60, s61, s62, s63, s64, s65, s66, s67, s68, s69, s70, s71, s72, s73, s74, s75, s76, s77, s78, s79, s80, s81, s82, s83, s84, s85, s86, s87, s88, s89, s90, s91, s92, s93, s94, s95, s96, s97, s98, s99, s100, s101, s102, .int .i64 m, .int .i64 m, .bool false, s106, s107, s108, s109, s110, s111, s112, s113, s114, s115, s116, s117, s118, s119, s120, s121, s122, s123, s124, s125, s126, s127, s128, s129, s130, s131, s132, s133, s134, s135, s136, s137, s138, s139, s140, s141, s142, s143, s144, s145, s146, s147, s148, s149, s150, s151, s152, s153, s154, s155, s156, s157, s158, s159, s160, s161, s162, s163, s164, s165, s166, s167, s168, s169, s170, s171, s172, s173, s174, s175, s176, s177, s178, s179, s180, s181, s182, s183, s184, s185, s186, s187, s188, s189, s190, s191, s192, s193, s194, s195, s196, s197, s198, s199, s200, s201, s202, s203, s204, s205, s206, s207, s208, s209, s210, s211, s212, s213, s214, s215, s216, s217, s218, s219, s220, s221, s222, s223, s224, s225, s226, s227, s228, s229, s230, s231, s232, s233, s234, s235, s236, s237, s238, s239, s240, s241, s242, s243, s244, s245, s246, s247, s248, s249, s250, s251, s252, s253, s254, s255, s256, s257, s258, s259, s260, s261, s262, s263, s264, s265, s266, s267, s268, s269, s270, s271, s272, s273, s274, s275, s276, s277, s278, s279, s280, s281, s282, s283, s284, s285, s286, s287, s288, s289, s290, s291, s292, s293, s294, s295, s296, s297, s298, s299, s300, s301, s302, s303, s304, s305, s306, s307, s308, s309, s310, s311, s312, s313, s314, s315, s316, s317, s318, s319, s320, s321, s322, s323, s324, s325, s326, s327, s328, s329, s330, s331, s332, s333, s334, s335, s336, s337, s338, s339, s340, s341, s342, s343, s344, s345, s346, s347, s348, s349], []⟩ w) :
    Code.wp Try.prog (loopBody Try.f12 2) (Exit.then Inv Q0) ⟨#[s0, s1, s2, s3, s4, s5, s6, s7, s8, s9, s10, s11, s12, s13, s14, s15, s16, s17, s18, s19, s20, s21, s22, s23, s24, s25, s26, s27, s28, s29, s30, s31, s32, s33, s34, s35, s36, s37, s38, s39, s40, s41, s42, s43, s44, s45, s46, s47, s48, s49, s50, s51, s52, s53, s54, s55, s56, s57, s58, s59, s60, s61, s62, s63, s64, s65, s66, s67, s68, s69, s70, s71, s72, s73, s74, s75, s76, s77, s78, s79, s80, s81, s82, s83, s84, s85, s86, s87, s88, s89, s90, s91, s92, s93, s94, s95, s96, s97, s98, s99, s100, s101, s102, .int .i64 m, .int .i64 m, s105, s106, s107, s108, s109, s110, s111, s112, s113, s114, s115, s116, s117, s118, s119, s120, s121, s122, s123, s124, s125, s126, s127, s128, s129, s130, s131, s132, s133, s134, s135, s136, s137, s138, s139, s140, s141, s142, s143, s144, s145, s146, s147, s148, s149, s150, s151, s152, s153, s154, s155, s156, s157, s158, s159, s160, s161, s162, s163, s164, s165, s166, s167, s168, s169, s170, s171, s172, s173, s174, s175, s176, s177, s178, s179, s180, s181, s182, s183, s184, s185, s186, s187, s188, s189, s190, s191, s192, s193, s194, s195, s196, s197, s198, s199, s200, s201, s202, s203, s204, s205, s206, s207, s208, s209, s210, s211, s212, s213, s214, s215, s216, s217, s218, s219, s220, s221, s222, s223, s224, s225, s226, s227, s228, s229, s230, s231, s232, s233, s234, s235, s236, s237, s238, s239, s240, s241, s242, s243, s244, s245, s246, s247, s248, s249, s250, s251, s252, s253, s254, s255, s256, s257, s258, s259, s260, s261, s262, s263, s264, s265, s266, s267, s268, s269, s270, s271, s272, s273, s274, s275, s276, s277, s278, s279, s280, s281, s282, s283, s284, s285, s286, s287, s288, s289, s290, s291, s292, s293, s294, s295, s296, s297, s298, s299, s300, s301, s302, s303, s304, s305, s306, s307, s308, s309, s310, s311, s312, s313, s314, s315, s316, s317, s318, s319, s320, s321, s322, s323, s324, s325, s326, s327, s328, s329, s330, s331, s332, s333, s334, s335, s336, s337, s338, s339, s340, s341, s342, s343, s344, s345, s346, s347, s348, s349], []⟩ w := by
  conv => arg 2; whnf
  have h : ¬ (m : Int) < (m : Int) := by omega
  have HQ := Lib.hid hQ
  clear hQ
  go_wp2_with fail
  exact HQ.out

set_option maxRecDepth 100000 in
theorem charts_x1 {m : Nat} {s0 s1 s2 s3 s4 s5 s6 s7 s8 s9 s10 s11 s12 s13 s14 s15 s16 s17 s18 s19 s20 s21 s22 s23 s24 s25 s26 s27 s28 s29 s30 s31 s32 s33 s34 s35 s36 s37 s38 s39 s40 s41 s42 s43 s44 s45 s46 s47 s48 s49 s50 s51 s52 s53 s54 s55 s56 s57 s58 s59 s60 s61 s62 s63 s64 s65 s66 s67 s68 s69 s70 s71 s72 s73 s74 s75 s76 s77 s78 s79 s80 s81 s84 s85 s86 s87 s88 s89 s90 s91 s92 s93 s94 s95 s96 s97 s98 s99 s100 s101 s102 s103 s104 s105 s106 s107 s108 s109 s110 s111 s112 s113 s114 s115 s116 s117 s118 s119 s120 s121 s122 s123 s124 s125 s126 s127 s128 s129 s130 s131 s132 s133 s134 s135 s136 s137 s138 s139 s140 s141 s142 s143 s144 s145 s146 s147 s148 s149 s150 s151 s152 s153 s154 s155 s156 s157 s158 s159 s160 s161 s162 s163 s164 s165 s166 s167 s168 s169 s170 s171 s172 s173 s174 s175 s176 s177 s178 s179 s180 s181 s182 s183 s184 s185 s186 s187 s188 s189 s190 s191 s192 s193 s194 s195 s196 s197 s198 s199 s200 s201 s202 s203 s204 s205 s206 s207 s208 s209 s210 s211 s212 s213 s214 s215 s216 s217 s218 s219 s220 s221 s222 s223 s224 s225 s226 s227 s228 s229 s230 s231 s232 s233 s234 s235 s236 s237 s238 s239 s240 s241 s242 s243 s244 s245 s246 s247 s248 s249 s250 s251 s252 s253 s254 s255 s256 s257 s258 s259 s260 s261 s262 s263 s264 s265 s266 s267 s268 s269 s270 s271 s272 s273 s274 s275 s276 s277 s278 s279 s280 s281 s282 s283 s284 s285 s286 s287 s288 s289 s290 s291 s292 s293 s294 s295 s296 s297 s298 s299 s300 s301 s302 s303 s304 s305 s306 s307 s308 s309 s310 s311 s312 s313 s314 s315 s316 s317 s318 s319 s320 s321 s322 s323 s324 s325 s326 s327 s328 s329 s330 s331 s332 s333 s334 s335 s336 s337 s338 s339 s340 s341 s342 s343 s344 s345 s346 s347 s348 s349 : Value} {Q0 : Exit → Act → World → Prop} {Inv : Act → World → Prop} {w : World}
    (hQ : Q0 (.exit 2) ⟨#[s0, s1, s2, s3, s4, s5, s6, s7, s8, s9, s10, s11, s12, s13, s14, s15, s16, s17, s18, s19, s20, s21, s22, s23, s24, s25, s26, s27, s28, s29, s30, s31, s32, s33, s34, s35, s36, s37, s38, s39, s40, s41, s42, s43, s44, s45, s46, s47, s48, s49, s50, s51, s52, s53, s54, s55, s56, s57, s58, s59, s60, s61, s62, s63, s64, s65, s66, s67, s68, s69, s70, s71, s72, s73, s74, s75, s76, s77, s78, s79, s80, s81, .int .i64 m, .int .i64 m, .bool false, s85, s86, s87, s88, s89, s90, s91, s92, s93, s94, s95, s96, s97, s98, s99, s100, s101, s102, s103, s104, s105, s106, s107, s108, s109, s110, s111, s112, s113, s114, s115, s116, s117, s118, s119, s120, s121, s122, s123, s124, s125, s126, s127, s128, s129, s130, s131, s132, s133, s134, s135, s136, s137, s138, s139, s140, s141, s142, s143, s144, s145, s146, s147, s148, s149, s150, s151, s152, s153, s154, s155, s156, s157, s158, s159, s160, s161, s162, s163, s164, s165, s166, s167, s168, s169, s170, s171, s172, s173, s174, s175, s176, s177, s178, s179, s180, s181, s182, s183, s184, s185, s186, s187, s188, s189, s190, s191, s192, s193, s194, s195, s196, s197, s198, s199, s200, s201, s202, s203, s204, s205, s206, s207, s208, s209, s210, s211, s212, s213, s214, s215, s216, s217, s218, s219, s220, s221, s222, s223, s224, s225, s226, s227, s228, s229, s230, s231, s232, s233, s234, s235, s236, s237, s238, s239, s240, s241, s242, s243, s244, s245, s246, s247, s248, s249, s250, s251, s252, s253, s254, s255, s256, s257, s258, s259, s260, s261, s262, s263, s264, s265, s266, s267, s268, s269, s270, s271, s272, s273, s274, s275, s276, s277, s278, s279, s280, s281, s282, s283, s284, s285, s286, s287, s288, s289, s290, s291, s292, s293, s294, s295, s296, s297, s298, s299, s300, s301, s302, s303, s304, s305, s306, s307, s308, s309, s310, s311, s312, s313, s314, s315, s316, s317, s318, s319, s320, s321, s322, s323, s324, s325, s326, s327, s328, s329, s330, s331, s332, s333, s334, s335, s336, s337, s338, s339, s340, s341, s342, s343, s344, s345, s346, s347, s348, s349], []⟩ w) :
    Code.wp Try.prog (loopBody Try.f12 1) (Exit.then Inv Q0) ⟨#[s0, s1, s2, s3, s4, s5, s6, s7, s8, s9, s10, s11, s12, s13, s14, s15, s16, s17, s18, s19, s20, s21, s22, s23, s24, s25, s26, s27, s28, s29, s30, s31, s32, s33, s34, s35, s36, s37, s38, s39, s40, s41, s42, s43, s44, s45, s46, s47, s48, s49, s50, s51, s52, s53, s54, s55, s56, s57, s58, s59, s60, s61, s62, s63, s64, s65, s66, s67, s68, s69, s70, s71, s72, s73, s74, s75, s76, s77, s78, s79, s80, s81, .int .i64 m, .int .i64 m, s84, s85, s86, s87, s88, s89, s90, s91, s92, s93, s94, s95, s96, s97, s98, s99, s100, s101, s102, s103, s104, s105, s106, s107, s108, s109, s110, s111, s112, s113, s114, s115, s116, s117, s118, s119, s120, s121, s122, s123, s124, s125, s126, s127, s128, s129, s130, s131, s132, s133, s134, s135, s136, s137, s138, s139, s140, s141, s142, s143, s144, s145, s146, s147, s148, s149, s150, s151, s152, s153, s154, s155, s156, s157, s158, s159, s160, s161, s162, s163, s164, s165, s166, s167, s168, s169, s170, s171, s172, s173, s174, s175, s176, s177, s178, s179, s180, s181, s182, s183, s184, s185, s186, s187, s188, s189, s190, s191, s192, s193, s194, s195, s196, s197, s198, s199, s200, s201, s202, s203, s204, s205, s206, s207, s208, s209, s210, s211, s212, s213, s214, s215, s216, s217, s218, s219, s220, s221, s222, s223, s224, s225, s226, s227, s228, s229, s230, s231, s232, s233, s234, s235, s236, s237, s238, s239, s240, s241, s242, s243, s244, s245, s246, s247, s248, s249, s250, s251, s252, s253, s254, s255, s256, s257, s258, s259, s260, s261, s262, s263, s264, s265, s266, s267, s268, s269, s270, s271, s272, s273, s274, s275, s276, s277, s278, s279, s280, s281, s282, s283, s284, s285, s286, s287, s288, s289, s290, s291, s292, s293, s294, s295, s296, s297, s298, s299, s300, s301, s302, s303, s304, s305, s306, s307, s308, s309, s310, s311, s312, s313, s314, s315, s316, s317, s318, s319, s320, s321, s322, s323, s324, s325, s326, s327, s328, s329, s330, s331, s332, s333, s334, s335, s336, s337, s338, s339, s340, s341, s342, s343, s344, s345, s346, s347, s348, s349], []⟩ w := by
  conv => arg 2; whnf
  have h : ¬ (m : Int) < (m : Int) := by omega
  have HQ := Lib.hid hQ
  clear hQ
  go_wp2_with fail
  exact HQ.out

set_option maxRecDepth 100000 in
set_option maxHeartbeats 4000000 in
theorem charts_d {c : ChC} {X w0 : World} {n nd wn : Nat} {A : Nat → Option Addr} {k : Nat → Nat} {ls lv : List (Int × Int)} {ld : List Int} (E : ChE c X) (S : ChS c X w0) (L : ChL X w0 n A k ls lv ld) (hn : n < nd) (hnd : nd ≤ 10) (hw : 1 ≤ wn ∧ wn ≤ 4) (hns : ∀ x ∈ c.ns, 0 ≤ x ∧ x < (wn : Int)) (hn5 : c.ns.length ≤ 5) (hn0 : 0 < c.ns.length) (hkb : Bytes c.kl) (hkl : c.kl.length ≤ 9223372036854775800) (hkc : c.kl.length ≤ c.ck ∧ c.ck ≤ 9223372036854775807) {s0 s1 s3 s4 s5 s6 s7 s8 s9 s10 s11 s17 s18 s22 s23 s24 s25 s26 s27 s28 s29 s30 s31 s32 s33 s34 s35 s36 s37 s38 s39 s40 s41 s42 s43 s44 s45 s46 s47 s48 s49 s50 s51 s52 s53 s54 s55 s56 s57 s58 s59 s60 s61 s62 s63 s64 s65 s66 s67 s68 s69 s70 s71 s72 s73 s74 s75 s76 s77 s78 s79 s80 s81 s84 s85 s86 s87 s88 s89 s90 s91 s92 s93 s94 s95 s96 s97 s98 s99 s100 s101 s102 s103 s104 s105 s106 s107 s108 s109 s110 s111 s112 s113 s114 s115 s116 s117 s118 s119 s120 s121 s122 s123 s124 s125 s126 s127 s128 s129 s130 s131 s132 s133 s134 s135 s136 s137 s138 s139 s140 s141 s142 s143 s144 s145 s146 s147 s148 s149 s150 s151 s152 s153 s154 s155 s156 s157 s158 s159 s160 s161 s162 s163 s164 s165 s166 s167 s168 s169 s170 s171 s172 s173 s174 s175 s176 s177 s178 s179 s180 s181 s182 s183 s184 s185 s186 s187 s188 s189 s190 s191 s192 s193 s194 s195 s196 s197 s198 s199 s200 s201 s202 s203 s204 s205 s206 s207 s208 s209 s210 s211 s212 s213 s214 s215 s216 s217 s218 s219 s220 s221 s222 s223 s224 s225 s226 s227 s228 s229 s230 s231 s232 s233 s234 s235 s236 s237 s238 s239 s240 s241 s242 s243 s244 s245 s246 s247 s248 s249 s250 s251 s252 s253 s254 s255 s256 s257 s258 s259 s260 s261 s262 s263 s264 s265 s266 s267 s268 s269 s270 s271 s272 s273 s274 s275 s276 s277 s278 s279 s280 s281 s282 s283 s284 s285 s286 s287 s288 s289 s290 s291 s292 s293 s294 s295 s296 s297 s298 s299 s300 s301 s302 s303 s304 s305 s306 s307 s308 s309 s310 s311 s312 s313 s314 s315 s316 s317 s318 s319 s320 s321 s322 s323 s324 s325 s326 s327 s328 s329 s330 s331 s332 s333 s334 s335 s336 s337 s338 s339 s340 s341 s342 s343 s344 s345 s346 s347 s348 s349 : Value} {Q0 : Exit → Act → World → Prop} {Inv : Act → World → Prop}
    (hInv : ∀ (t10 t22 t23 t24 t25 t26 t27 t28 t29 t30 t31 t32 t33 t34 t35 t36 t38 t39 t40 t84 t85 t86 t87 t88 t89 t90 t91 t92 t93 t94 t95 t96 t97 t98 t99 t100 t101 t102 t103 t104 t105 t106 t107 t108 t109 t110 t111 t112 t113 t114 t115 t116 t117 t118 t119 t120 t121 t122 t123 t124 t125 t126 t127 t128 t129 t130 t131 t132 t133 t134 t135 t136 t137 t138 t139 t140 t141 t142 t143 t144 t145 t146 t147 t148 t149 t150 t151 t152 t153 t154 t155 t156 t157 t158 t159 t160 t161 t162 t163 t164 t165 t166 t167 t168 t169 t170 t171 t172 t173 t174 t175 t176 t177 t178 t179 t180 t181 t182 t183 t184 t185 t186 t187 t188 t189 t190 t191 t192 t193 t194 t195 t196 t197 t198 t199 t200 t201 t202 t203 t204 t205 t206 t207 t208 t209 t210 t211 t212 t213 t214 t215 t216 t217 t218 t219 t220 t221 t222 t223 t224 t225 t226 t227 t228 t229 t230 t231 t232 t233 t234 t235 t236 t237 t238 t239 t240 t241 t242 t243 t244 t245 t246 t247 t248 t249 : Value) (A' : Nat → Option Addr) (k' : Nat → Nat) (s' v' : List (Int × Int)) (d' : List Int) (w' : World), ChS c X w' ∧ ChL X w' (n + 1) A' k' s' v' d' → Inv ⟨#[s0, s1, .slice c.Ak c.kl.length c.ck, s3, s4, s5, s6, s7, s8, s9, t10, s11, fnAt c.ibm c.lbm, .pointer (some ⟨c.rb, 0, none⟩), .func (.func 68) #[] #[.pointer (some ⟨c.rb, 0, none⟩)], .int .i64 wn, .slice c.Ad c.ns.length c.cd, s17, s18, .slice (A' 0) (n + 1) (k' 0), .slice (A' 1) (n + 1) (k' 1), .slice (A' 2) (n + 1) (k' 2), t22, t23, t24, t25, t26, t27, t28, t29, t30, t31, t32, t33, t34, t35, t36, s37, t38, t39, t40, s41, s42, s43, s44, s45, s46, s47, s48, s49, s50, s51, s52, s53, s54, s55, s56, s57, s58, s59, s60, s61, s62, s63, s64, s65, s66, s67, s68, s69, s70, s71, s72, s73, s74, s75, s76, s77, s78, s79, s80, s81, .int .i64 nd, .int .i64 ((n : Int) + 1), t84, t85, t86, t87, t88, t89, t90, t91, t92, t93, t94, t95, t96, t97, t98, t99, t100, t101, t102, t103, t104, t105, t106, t107, t108, t109, t110, t111, t112, t113, t114, t115, t116, t117, t118, t119, t120, t121, t122, t123, t124, t125, t126, t127, t128, t129, t130, t131, t132, t133, t134, t135, t136, t137, t138, t139, t140, t141, t142, t143, t144, t145, t146, t147, t148, t149, t150, t151, t152, t153, t154, t155, t156, t157, t158, t159, t160, t161, t162, t163, t164, t165, t166, t167, t168, t169, t170, t171, t172, t173, t174, t175, t176, t177, t178, t179, t180, t181, t182, t183, t184, t185, t186, t187, t188, t189, t190, t191, t192, t193, t194, t195, t196, t197, t198, t199, t200, t201, t202, t203, t204, t205, t206, t207, t208, t209, t210, t211, t212, t213, t214, t215, t216, t217, t218, t219, t220, t221, t222, t223, t224, t225, t226, t227, t228, t229, t230, t231, t232, t233, t234, t235, t236, t237, t238, t239, t240, t241, t242, t243, t244, t245, t246, t247, t248, t249, s250, s251, s252, s253, s254, s255, s256, s257, s258, s259, s260, s261, s262, s263, s264, s265, s266, s267, s268, s269, s270, s271, s272, s273, s274, s275, s276, s277, s278, s279, s280, s281, s282, s283, s284, s285, s286, s287, s288, s289, s290, s291, s292, s293, s294, s295, s296, s297, s298, s299, s300, s301, s302, s303, s304, s305, s306, s307, s308, s309, s310, s311, s312, s313, s314, s315, s316, s317, s318, s319, s320, s321, s322, s323, s324, s325, s326, s327, s328, s329, s330, s331, s332, s333, s334, s335, s336, s337, s338, s339, s340, s341, s342, s343, s344, s345, s346, s347, s348, s349], []⟩ w') :
    Code.wp Try.prog (loopBody Try.f12 1) (Exit.then Inv Q0) ⟨#[s0, s1, .slice c.Ak c.kl.length c.ck, s3, s4, s5, s6, s7, s8, s9, s10, s11, fnAt c.ibm c.lbm, .pointer (some ⟨c.rb, 0, none⟩), .func (.func 68) #[] #[.pointer (some ⟨c.rb, 0, none⟩)], .int .i64 wn, .slice c.Ad c.ns.length c.cd, s17, s18, .slice (A 0) n (k 0), .slice (A 1) n (k 1), .slice (A 2) n (k 2), s22, s23, s24, s25, s26, s27, s28, s29, s30, s31, s32, s33, s34, s35, s36, s37, s38, s39, s40, s41, s42, s43, s44, s45, s46, s47, s48, s49, s50, s51, s52, s53, s54, s55, s56, s57, s58, s59, s60, s61, s62, s63, s64, s65, s66, s67, s68, s69, s70, s71, s72, s73, s74, s75, s76, s77, s78, s79, s80, s81, .int .i64 nd, .int .i64 n, s84, s85, s86, s87, s88, s89, s90, s91, s92, s93, s94, s95, s96, s97, s98, s99, s100, s101, s102, s103, s104, s105, s106, s107, s108, s109, s110, s111, s112, s113, s114, s115, s116, s117, s118, s119, s120, s121, s122, s123, s124, s125, s126, s127, s128, s129, s130, s131, s132, s133, s134, s135, s136, s137, s138, s139, s140, s141, s142, s143, s144, s145, s146, s147, s148, s149, s150, s151, s152, s153, s154, s155, s156, s157, s158, s159, s160, s161, s162, s163, s164, s165, s166, s167, s168, s169, s170, s171, s172, s173, s174, s175, s176, s177, s178, s179, s180, s181, s182, s183, s184, s185, s186, s187, s188, s189, s190, s191, s192, s193, s194, s195, s196, s197, s198, s199, s200, s201, s202, s203, s204, s205, s206, s207, s208, s209, s210, s211, s212, s213, s214, s215, s216, s217, s218, s219, s220, s221, s222, s223, s224, s225, s226, s227, s228, s229, s230, s231, s232, s233, s234, s235, s236, s237, s238, s239, s240, s241, s242, s243, s244, s245, s246, s247, s248, s249, s250, s251, s252, s253, s254, s255, s256, s257, s258, s259, s260, s261, s262, s263, s264, s265, s266, s267, s268, s269, s270, s271, s272, s273, s274, s275, s276, s277, s278, s279, s280, s281, s282, s283, s284, s285, s286, s287, s288, s289, s290, s291, s292, s293, s294, s295, s296, s297, s298, s299, s300, s301, s302, s303, s304, s305, s306, s307, s308, s309, s310, s311, s312, s313, s314, s315, s316, s317, s318, s319, s320, s321, s322, s323, s324, s325, s326, s327, s328, s329, s330, s331, s332, s333, s334, s335, s336, s337, s338, s339, s340, s341, s342, s343, s344, s345, s346, s347, s348, s349], []⟩ w0 := by
  conv => arg 2; whnf
  have HI := Lib.hid hInv
  have HE := Lib.hid (And.intro E (And.intro S (And.intro L (E.at S))))
  have HN := Lib.hid (And.intro hns hkb)
  have n1 : (n : Int) < (nd : Int) := by omega
  have kb := blank_ok (wn : Int) 1 (n : Int) wn (by omega) (size_day (by omega) (by omega)) w0
  have HB := Lib.hid kb
  clear hInv E S L hns hkb kb
  go_wp2_with fail
  refine HB.out.mono ?_
  rintro e w1 ⟨g, rfl, ⟨cur, hg, hrep⟩, hgn, b1⟩
  rw [rep_cels hrep] at hg
  go_upto_region 20 with fail
  obtain ⟨W1, hW1⟩ : ∃ W, W = w1.alloc (.cells #[.int .i64 wn, .int .i64 1, .int .i64 n, .slice (some ⟨g, 0, none⟩) wn wn] 114) := ⟨_, rfl⟩
  obtain ⟨cb, hcb⟩ : ∃ b, b = w1.heap.size := ⟨_, rfl⟩
  have hch : W1.heap[cb]? = some (.cells #[.int .i64 wn, .int .i64 1, .int .i64 n, .slice (some ⟨g, 0, none⟩) wn wn] 114 (0, 0)) := by rw [hW1, hcb]; exact heap_alloc_new _ _
  have bW : Below w0.heap.size w0 W1 := by rw [hW1]; exact b1.alloc b1.size _
  have hg1 : W1.heap[g]? = some (.cells (cels (List.replicate wn celW)).toArray 123 (0, 0)) := by rw [hW1]; exact heap_alloc' hg _
  have hF1 : ChF c w0 W1 cb g wn (wn : Int) (n : Int) (List.replicate wn celW) [] none 0 [] := by
    refine ⟨(ChS.start HE.out.2.2.2).below bW HE.out.2.2.2, hch, hg1, ⟨by have := b1.size; omega, hgn, by have := heap_lt hg; omega⟩, by simp, OwnS.nil _ _ _, by simp, fun x hx => ?_, fun j h1 _ => by simp at h1⟩
    rw [(List.mem_replicate.1 hx).2]; decide
  rw [← hW1, ← hcb]
  have HF := Lib.hid hF1
  have c3 := (cell_of_heap hch 3).trans rfl
  have zc := heap_lt hch
  clear hW1 hcb hch bW hg1 hF1 hg hrep hgn b1
  go_wp2_with fail
  go_loopw [25, 104] (fun o m wx => ∃ (i : Nat) (Af : Option Addr) (cf : Nat) (qf : List Nat) (l : List Cel) (f : List Ice), i ≤ wn ∧ m = .int .i64 i ∧ o = .slice Af i cf ∧ f.length = i ∧ ChF c w0 wx cb g wn (wn : Int) (n : Int) l f Af cf qf) (fun _ m _ => wn - (intOf m).toNat)
  case atStart => exact ⟨0, none, 0, [], _, [], Nat.zero_le _, rfl, rfl, rfl, HF.out⟩
  case round =>
    obtain ⟨i, Af, cf, qf, l, f, hi, rfl, rfl, hfl, hF⟩ := hrel
    have HF2 := Lib.hid hF
    clear hF c3 zc
    by_cases hlt : i < wn
    · refine charts_r HE.out.2.2.2 HF2.out hfl hlt hw.2 (by omega) HN.out.2 hkl hkc ?_
      intro _ _ _ _ _ _ _ _ _ _ _ _ _ _ _ _ _ _ _ _ _ _ _ _ _ _ _ _ _ _ _ _ _ _ _ _ _ _ _ _ _ _ _ Af' cf' qf' l' f' w' hr
      refine ⟨?_, by simp [intOf]; omega⟩
      repeat apply Exists.intro
      refine ⟨?_, rfl⟩
      exact ⟨i + 1, Af', cf', qf', l', f', by omega, by go_num, rfl, hr.1, hr.2⟩
    · obtain rfl : i = wn := by omega
      refine charts_x2 ?_
      simp only [Exit.inBlock, Exit.then, if_true]
      apply_assumption
      subst hfl
      refine charts_a HE.out.1 HE.out.2.1 HF2.out.st HE.out.2.2.1 (by omega) HF2.out.fo (fun y hy => (HF2.out.fn y hy).1) (by rw [HF2.out.len]; exact HF2.out.hcb) HF2.out.hg ⟨HF2.out.cg.1, HF2.out.cg.2.1⟩ ⟨HF2.out.len.symm, HF2.out.hh⟩ (chart_day (by omega) (by omega) (by rw [HF2.out.len]) HF2.out.ok) (by omega) (by rw [HF2.out.len]; exact HN.out.1) hn5 hn0 (by rw [HF2.out.len]; exact hw.2) ?_
      intros
      rename_i A' k' s' v' d' w' hr
      have HR := Lib.hid hr
      clear hr
      simp only [Exit.inBlock, Exit.then]
      apply_assumption
      go_wp2_with fail
      exact HI.out _ _ _ _ _ _ _ _ _ _ _ _ _ _ _ _ _ _ _ _ _ _ _ _ _ _ _ _ _ _ _ _ _ _ _ _ _ _ _ _ _ _ _ _ _ _ _ _ _ _ _ _ _ _ _ _ _ _ _ _ _ _ _ _ _ _ _ _ _ _ _ _ _ _ _ _ _ _ _ _ _ _ _ _ _ _ _ _ _ _ _ _ _ _ _ _ _ _ _ _ _ _ _ _ _ _ _ _ _ _ _ _ _ _ _ _ _ _ _ _ _ _ _ _ _ _ _ _ _ _ _ _ _ _ _ _ _ _ _ _ _ _ _ _ _ _ _ _ _ _ _ _ _ _ _ _ _ _ _ _ _ _ _ _ _ _ _ _ _ _ _ _ _ _ _ _ _ _ _ _ _ _ _ _ _ A' k' s' v' d' _ HR.out
end Go.Proofs.Ytfmhlnfcbbpfeaa
/- RestrictCharts: from the bounds on (printed by wip/tools/cht.py) -/
namespace Go.Proofs.Ytfmhlnfcbbpfeaa
open Go Go.RowKit Go.Lib Sp
set_option linter.unusedVariables false
set_option linter.unusedSimpArgs false

theorem bnd_fix {c : ChC} (hck : checkS c.p = 0) {A : Option Addr} {k n : Nat} {l : List (Int × Int)} (hl : l.length = n) (hn : n ≤ 400) (hs : spnE c.p l = 0) (X : World) (E : PolV X c.As c.cs c.p) (hr : Rd X 2 A n (spcs l)) :
    Calls Try.prog 55 #[.agg #[.slice c.As c.p.steps.length c.cs, .int .i64 c.p.hold, .int .i64 c.p.calm, .int .i64 c.p.notice, .int .i64 c.p.grace], .slice A n k] X fun e w' => ∃ A' c', e = .returned (.tuple #[.slice A' n c', .int .i64 0]) ∧ Rd w' 2 A' n (spcs (bndS c.p l)) ∧ Below X.heap.size X w' := by
  subst hl
  refine (Bounds_any c.As c.cs c.p A k l X E hr (by omega)).mono ?_
  rintro e w' ⟨A', n', c', rfl, b, h1, _⟩
  obtain ⟨rfl, h2⟩ := h1 hs
  rw [hs]
  exact ⟨A', c', rfl, h2, b⟩
theorem frc_fix {c : ChC} {A : Option Addr} {k n : Nat} {l : List Int} (hl : l.length = n) (hn : n ≤ 400) (hs : startS c.p l = 0) (X : World) (E : PolV X c.As c.cs c.p) (hr : Rd X 1 A n (ints l)) :
    Calls Try.prog 21 #[.agg #[.slice c.As c.p.steps.length c.cs, .int .i64 c.p.hold, .int .i64 c.p.calm, .int .i64 c.p.notice, .int .i64 c.p.grace], .slice A n k] X fun e w' => ∃ A' c', e = .returned (.tuple #[.slice A' n c', .int .i64 0]) ∧ Rd w' 1 A' n (ints (forceS c.p l)) ∧ Below X.heap.size X w' := by
  subst hl
  refine (Force_any c.As c.cs c.p A k l X E hr (by omega)).mono ?_
  rintro e w' ⟨A', c', rfl, h2, b⟩
  rw [if_pos hs, hs] at *
  have hh := h2.1
  rw [forceS_length] at hh ⊢
  exact ⟨A', c', rfl, hh, b⟩
theorem bnd_get {p : Pol} {l : List (Int × Int)} {k : Nat} (hk : k < l.length) : (spcs (bndS p l))[k*2]? = some (.int .i64 ((forceS p (l.map (·.1))).getD k 0)) ∧ (spcs (bndS p l))[k*2+1]? = some (.int .i64 ((forceS p (l.map (·.2))).getD k 0)) := by
  have h := spcs_get (l := bndS p l) (k := k) (by rw [bndS_length]; exact hk)
  have e : (bndS p l)[k]'(by rw [bndS_length]; exact hk) = ((forceS p (l.map (·.1))).getD k 0, (forceS p (l.map (·.2))).getD k 0) := by simp [bndS]
  rw [e] at h
  exact h

set_option maxRecDepth 100000 in
set_option maxHeartbeats 4000000 in
theorem charts_t {Q0 : Exit → Act → World → Prop} {c : ChC} {w w1 : World} {A1 A2 A3 : Option Addr} {c1 c2 c3 n : Nat} {s v : List (Int × Int)} {d : List Int} (E : ChE c w1) (hck : checkS c.p = 0) (hr1 : Rd w1 2 A1 n (spcs s)) (hr2 : Rd w1 2 A2 n (spcs v)) (hr3 : Rd w1 1 A3 n (ints d)) (hn : s.length = n) (hn10 : n ≤ 10) (T : Tri s v d) (bel : Below w.heap.size w w1) {s0 s1 s2 s3 s4 s5 s6 s7 s8 s9 s10 s12 s13 s14 s15 s16 s17 s18 s22 s23 s24 s25 s26 s27 s28 s29 s30 s31 s32 s33 s34 s35 s36 s37 s38 s39 s40 s41 s42 s43 s44 s45 s46 s47 s48 s49 s50 s51 s52 s53 s54 s55 s56 s57 s58 s59 s60 s61 s62 s63 s64 s65 s66 s67 s68 s69 s70 s71 s72 s73 s74 s75 s76 s77 s78 s79 s80 s81 s82 s83 s84 s85 s86 s87 s88 s89 s90 s91 s92 s93 s94 s95 s96 s97 s98 s99 s100 s101 s102 s103 s104 s105 s106 s107 s108 s109 s110 s111 s112 s113 s114 s115 s116 s117 s118 s119 s120 s121 s122 s123 s124 s125 s126 s127 s128 s129 s130 s131 s132 s133 s134 s135 s136 s137 s138 s139 s140 s141 s142 s143 s144 s145 s146 s147 s148 s149 s150 s151 s152 s153 s154 s155 s156 s157 s158 s159 s160 s161 s162 s163 s164 s165 s166 s167 s168 s169 s170 s171 s172 s173 s174 s175 s176 s177 s178 s179 s180 s181 s182 s183 s184 s185 s186 s187 s188 s189 s190 s191 s192 s193 s194 s195 s196 s197 s198 s199 s200 s201 s202 s203 s204 s205 s206 s207 s208 s209 s210 s211 s212 s213 s214 s215 s216 s217 s218 s219 s220 s221 s222 s223 s224 s225 s226 s227 s228 s229 s230 s231 s232 s233 s234 s235 s236 s237 s238 s239 s240 s241 s242 s243 s244 s245 s246 s247 s248 s249 s250 s251 s252 s253 s254 s255 s256 s257 s258 s259 s260 s261 s262 s263 s264 s265 s266 s267 s268 s269 s270 s271 s272 s273 s274 s275 s276 s277 s278 s279 s280 s281 s282 s283 s284 s285 s286 s287 s288 s289 s290 s291 s292 s293 s294 s295 s296 s297 s298 s299 s300 s301 s302 s303 s304 s305 s306 s307 s308 s309 s310 s311 s312 s313 s314 s315 s316 s317 s318 s319 s320 s321 s322 s323 s324 s325 s326 s327 s328 s329 s330 s331 s332 s333 s334 s335 s336 s337 s338 s339 s340 s341 s342 s343 s344 s345 s346 s347 s348 s349 : Value} (hQ0 : ∀ e1 a1 w1, bodyPost Try.prog Try.f12 (fun e w' => e = .returned (.bool true) ∧ Below w.heap.size w w') e1 a1 w1 → Q0 e1 a1 w1) :
    Code.wp Try.prog (restOf Try.f12 56) Q0 ⟨#[s0, s1, s2, s3, s4, s5, s6, s7, s8, s9, s10, .pointer (some ⟨c.pb, 0, none⟩), s12, s13, s14, s15, s16, s17, s18, .slice A1 n c1, .slice A2 n c2, .slice A3 n c3, s22, s23, s24, s25, s26, s27, s28, s29, s30, s31, s32, s33, s34, s35, s36, s37, s38, s39, s40, s41, s42, s43, s44, s45, s46, s47, s48, s49, s50, s51, s52, s53, s54, s55, s56, s57, s58, s59, s60, s61, s62, s63, s64, s65, s66, s67, s68, s69, s70, s71, s72, s73, s74, s75, s76, s77, s78, s79, s80, s81, s82, s83, s84, s85, s86, s87, s88, s89, s90, s91, s92, s93, s94, s95, s96, s97, s98, s99, s100, s101, s102, s103, s104, s105, s106, s107, s108, s109, s110, s111, s112, s113, s114, s115, s116, s117, s118, s119, s120, s121, s122, s123, s124, s125, s126, s127, s128, s129, s130, s131, s132, s133, s134, s135, s136, s137, s138, s139, s140, s141, s142, s143, s144, s145, s146, s147, s148, s149, s150, s151, s152, s153, s154, s155, s156, s157, s158, s159, s160, s161, s162, s163, s164, s165, s166, s167, s168, s169, s170, s171, s172, s173, s174, s175, s176, s177, s178, s179, s180, s181, s182, s183, s184, s185, s186, s187, s188, s189, s190, s191, s192, s193, s194, s195, s196, s197, s198, s199, s200, s201, s202, s203, s204, s205, s206, s207, s208, s209, s210, s211, s212, s213, s214, s215, s216, s217, s218, s219, s220, s221, s222, s223, s224, s225, s226, s227, s228, s229, s230, s231, s232, s233, s234, s235, s236, s237, s238, s239, s240, s241, s242, s243, s244, s245, s246, s247, s248, s249, s250, s251, s252, s253, s254, s255, s256, s257, s258, s259, s260, s261, s262, s263, s264, s265, s266, s267, s268, s269, s270, s271, s272, s273, s274, s275, s276, s277, s278, s279, s280, s281, s282, s283, s284, s285, s286, s287, s288, s289, s290, s291, s292, s293, s294, s295, s296, s297, s298, s299, s300, s301, s302, s303, s304, s305, s306, s307, s308, s309, s310, s311, s312, s313, s314, s315, s316, s317, s318, s319, s320, s321, s322, s323, s324, s325, s326, s327, s328, s329, s330, s331, s332, s333, s334, s335, s336, s337, s338, s339, s340, s341, s342, s343, s344, s345, s346, s347, s348, s349], []⟩ w1 := by
  refine wp_mono ?_ hQ0
  clear hQ0
  conv => arg 2; whnf
  obtain ⟨z1, z2, z3⟩ := T.starts hck (by omega)
  have hf := fun (k : Nat) (hk : k < s.length) => T.force hck hk
  have KB := Lib.hid (And.intro (fun X => bnd_fix (A := A1) (k := c1) hck hn (by omega) z1 X) (And.intro (fun X => bnd_fix (A := A2) (k := c2) hck (T.l1.trans hn) (by omega) z2 X) (fun X => frc_fix (A := A3) (k := c3) (T.l2.trans hn) (by omega) z3 X)))
  have HL := Lib.hid (And.intro T.l1 (And.intro T.l2 hf))
  have H1 := Lib.hid (And.intro hr1 (And.intro hr2 (And.intro hr3 (And.intro E bel))))
  have b0 := (cell_of_heap E.blk 0).trans rfl
  have b1 := (cell_of_heap E.blk 1).trans rfl
  have b2 := (cell_of_heap E.blk 2).trans rfl
  have b3 := (cell_of_heap E.blk 3).trans rfl
  have b4 := (cell_of_heap E.blk 4).trans rfl
  have zp := heap_lt E.blk
  clear z1 z2 z3 hf hr1 hr2 hr3 bel hck T E
  go_wp2_with fail
  refine (KB.out.1 _ H1.out.2.2.2.1.pol H1.out.1).mono ?_
  rintro e w2 ⟨Ab, cb, rfl, rb, bb⟩
  have E2 := H1.out.2.2.2.1.at ((ChS.start H1.out.2.2.2.1).below bb H1.out.2.2.2.1)
  have H2 := Lib.hid (And.intro E2 (And.intro rb bb))
  clear b0 b1 b2 b3 b4 zp rb bb E2
  have b0 := (cell_of_heap H2.out.1.blk 0).trans rfl
  have b1 := (cell_of_heap H2.out.1.blk 1).trans rfl
  have b2 := (cell_of_heap H2.out.1.blk 2).trans rfl
  have b3 := (cell_of_heap H2.out.1.blk 3).trans rfl
  have b4 := (cell_of_heap H2.out.1.blk 4).trans rfl
  have zp := heap_lt H2.out.1.blk
  go_wp2_with fail
  refine (KB.out.2.1 _ H2.out.1.pol (H1.out.2.1.below H2.out.2.2)).mono ?_
  rintro e w3 ⟨Ac, cc, rfl, rc, bc⟩
  have E3 := H2.out.1.at ((ChS.start H2.out.1).below bc H2.out.1)
  have H3 := Lib.hid (And.intro E3 (And.intro (H2.out.2.1.below bc) (And.intro rc (H2.out.2.2.trans (bc.mono H2.out.2.2.size)))))
  clear b0 b1 b2 b3 b4 zp rc bc E3
  have b0 := (cell_of_heap H3.out.1.blk 0).trans rfl
  have b1 := (cell_of_heap H3.out.1.blk 1).trans rfl
  have b2 := (cell_of_heap H3.out.1.blk 2).trans rfl
  have b3 := (cell_of_heap H3.out.1.blk 3).trans rfl
  have b4 := (cell_of_heap H3.out.1.blk 4).trans rfl
  have zp := heap_lt H3.out.1.blk
  go_wp2_with fail
  refine (KB.out.2.2 _ H3.out.1.pol (H1.out.2.2.1.below H3.out.2.2.2)).mono ?_
  rintro e w4 ⟨Ad, cd, rfl, rd, bd⟩
  have H4 := Lib.hid (And.intro (H3.out.2.1.below bd) (And.intro (H3.out.2.2.1.below bd) (And.intro rd (H1.out.2.2.2.2.trans ((H3.out.2.2.2.trans (bd.mono H3.out.2.2.2.size)).mono H1.out.2.2.2.2.size)))))
  clear b0 b1 b2 b3 b4 zp rd bd
  go_wp2_with fail
  go_loopw [301] (fun i wr => ∃ k : Nat, k ≤ n ∧ i = .int .i64 k ∧ Below w4.heap.size w4 wr) (fun i _ => n - (intOf i).toNat)
  case atStart => exact ⟨0, Nat.zero_le _, rfl, Below.refl _ _⟩
  case round =>
    obtain ⟨k, hk, rfl, hb⟩ := hrel
    by_cases hlt : k < n
    · obtain ⟨bb, ob, rfl, zb, gb⟩ := H4.out.1.2 (by omega)
      obtain ⟨bc, oc, rfl, zc, gc⟩ := H4.out.2.1.2 (by omega)
      obtain ⟨bd, od, rfl, zd, gd⟩ := H4.out.2.2.1.2 (by omega)
      obtain ⟨f, hf⟩ : ∃ f, f = (forceS c.p d).getD k 0 := ⟨_, rfl⟩
      obtain ⟨lo, hlo⟩ : ∃ f, f = (forceS c.p (s.map (·.1))).getD k 0 := ⟨_, rfl⟩
      obtain ⟨hi, hhi⟩ : ∃ f, f = (forceS c.p (s.map (·.2))).getD k 0 := ⟨_, rfl⟩
      obtain ⟨lo2, hlo2⟩ : ∃ f, f = (forceS c.p (v.map (·.1))).getD k 0 := ⟨_, rfl⟩
      obtain ⟨hi2, hhi2⟩ : ∃ f, f = (forceS c.p (v.map (·.2))).getD k 0 := ⟨_, rfl⟩
      obtain ⟨r1, r2, r3, r4⟩ := HL.out.2.2 k (by omega)
      have q1 := bnd_get (p := c.p) (l := s) (k := k) (by omega)
      have q2 := bnd_get (p := c.p) (l := v) (k := k) (by rw [HL.out.1]; omega)
      have q3 := ints_get (l := forceS c.p d) (k := k) (by rw [forceS_length, HL.out.2.1]; omega)
      rw [← hlo, ← hhi] at q1
      rw [← hlo2, ← hhi2] at q2
      rw [← hf] at q3
      rw [← hf, ← hlo] at r1
      rw [← hf, ← hhi] at r2
      rw [← hlo, ← hlo2] at r3
      rw [← hhi, ← hhi2] at r4
      have cb0 := (hb.cell (p := ⟨bb, ob + k*2, none⟩) zb).trans (gb _ _ q1.1)
      have cb1 : wr.cell? ⟨bb, ob + k*2 + 1, none⟩ = _ := (hb.cell (p := ⟨bb, ob + (k*2 + 1), none⟩) zb).trans (gb _ _ q1.2)
      have cc0 := (hb.cell (p := ⟨bc, oc + k*2, none⟩) zc).trans (gc _ _ q2.1)
      have cc1 : wr.cell? ⟨bc, oc + k*2 + 1, none⟩ = _ := (hb.cell (p := ⟨bc, oc + (k*2 + 1), none⟩) zc).trans (gc _ _ q2.2)
      have cd0 := (hb.cell (p := ⟨bd, od + k, none⟩) zd).trans (gd _ _ q3)
      have g1 : decide (f < lo) = false := by simp; omega
      have g2 : decide (hi < f) = false := by simp; omega
      have g3 : decide (lo < lo2) = false := by simp; omega
      have g4 : decide (hi2 < hi) = false := by simp; omega
      have y1 := World.block_lt_of_cell? _ _ cb0
      have y2 := World.block_lt_of_cell? _ _ cc0
      have y3 := World.block_lt_of_cell? _ _ cd0
      have n1 : (0 : Int) ≤ (k : Int) := by omega
      have n2 : (k : Int) < (n : Int) := by omega
      have HB := Lib.hid hb
      clear gb gc gd q1 q2 q3 hf hlo hhi hlo2 hhi2 r1 r2 r3 r4 zb zc zd hb
      go_upto_region 64 with fail
      go_cut [347] from 306 to 347 (fun b wx => b = .bool false ∧ ∃ nq, wx = wr.drewN nq)
      case first =>
        go_quiet (fail)
        go_wp2_with fail
        go_meet
        exact ⟨rfl, _, rfl⟩
      case rest =>
      obtain ⟨rfl, nq, hwc⟩ := hcut
      obtain ⟨V, hV⟩ : ∃ V, V = wr.drewN nq := ⟨_, rfl⟩
      have bV : Below wr.heap.size wr V := by rw [hV]; exact below_drewN (Below.refl _ _) _
      rw [← hV] at hwc
      subst hwc
      have HV := Lib.hid (HB.out.trans (bV.mono HB.out.size))
      clear hV bV cb0 cb1 cc0 cc1 cd0 g1 g2 g3 g4
      go_wp2_with fail
      go_roundw
      case measure => simp [intOf]; omega
      case rel => exact ⟨k + 1, by omega, by go_num, HV.out⟩
    · obtain rfl : k = n := by omega
      have HB := Lib.hid (H4.out.2.2.2.trans (hb.mono H4.out.2.2.2.size))
      clear hb
      go_wp2_with (go_at_call 16; refine (awake_any _).mono ?_; rintro e wl ⟨rfl, bn⟩)
      go_ret
      exact ⟨rfl, HB.out.trans (bn.mono HB.out.size)⟩
end Go.Proofs.Ytfmhlnfcbbpfeaa
