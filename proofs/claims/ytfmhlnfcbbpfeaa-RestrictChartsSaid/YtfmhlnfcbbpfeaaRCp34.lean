/- RestrictCharts: from the lists on (printed by wip/tools/chm.py) -/
import Derived.Test.YtfmhlnfcbbpfeaaRCp33
set_option linter.unusedVariables false
namespace Go.Proofs.Ytfmhlnfcbbpfeaa
open Go Go.RowKit Go.Lib Sp
set_option linter.unusedVariables false
set_option linter.unusedSimpArgs false

set_option maxRecDepth 100000 in
set_option maxHeartbeats 4000000 in
theorem charts_u {Q0 : Exit → Act → World → Prop} {c : ChC} {w w1 : World} {wn : Nat} (E : ChE c w1) (hck : checkS c.p = 0) (bel : Below w.heap.size w w1) (hib : w.heap.size ≤ c.ibm ∧ w.heap.size ≤ c.ibr) (hw : 1 ≤ wn ∧ wn ≤ 4) (hkb : Bytes c.kl) (hkl : c.kl.length ≤ 9223372036854775800) (hkc : c.kl.length ≤ c.ck ∧ c.ck ≤ 9223372036854775807) (hns : ∀ x ∈ c.ns, 0 ≤ x ∧ x < (wn : Int)) (hn5 : c.ns.length ≤ 5) (hn0 : 0 < c.ns.length) {s0 s1 s3 s4 s5 s6 s7 s8 s9 s10 s17 s18 s19 s20 s21 s22 s23 s24 s25 s26 s27 s28 s29 s30 s31 s32 s33 s34 s35 s36 s37 s38 s39 s40 s41 s42 s43 s44 s45 s46 s47 s48 s49 s50 s51 s52 s53 s54 s55 s56 s57 s58 s59 s60 s61 s62 s63 s64 s65 s66 s67 s68 s69 s70 s71 s72 s73 s74 s75 s76 s77 s78 s79 s80 s81 s82 s83 s84 s85 s86 s87 s88 s89 s90 s91 s92 s93 s94 s95 s96 s97 s98 s99 s100 s101 s102 s103 s104 s105 s106 s107 s108 s109 s110 s111 s112 s113 s114 s115 s116 s117 s118 s119 s120 s121 s122 s123 s124 s125 s126 s127 s128 s129 s130 s131 s132 s133 s134 s135 s136 s137 s138 s139 s140 s141 s142 s143 s144 s145 s146 s147 s148 s149 s150 s151 s152 s153 s154 s155 s156 s157 s158 s159 s160 s161 s162 s163 s164 s165 s166 s167 s168 s169 s170 s171 s172 s173 s174 s175 s176 s177 s178 s179 s180 s181 s182 s183 s184 s185 s186 s187 s188 s189 s190 s191 s192 s193 s194 s195 s196 s197 s198 s199 s200 s201 s202 s203 s204 s205 s206 s207 s208 s209 s210 s211 s212 s213 s214 s215 s216 s217 s218 s219 s220 s221 s222 s223 s224 s225 s226 s227 s228 s229 s230 s231 s232 s233 s234 s235 s236 s237 s238 s239 s240 s241 s242 s243 s244 s245 s246 s247 s248 s249 s250 s251 s252 s253 s254 s255 s256 s257 s258 s259 s260 s261 s262 s263 s264 s265 s266 s267 s268 s269 s270 s271 s272 s273 s274 s275 s276 s277 s278 s279 s280 s281 s282 s283 s284 s285 s286 s287 s288 s289 s290 s291 s292 s293 s294 s295 s296 s297 s298 s299 s300 s301 s302 s303 s304 s305 s306 s307 s308 s309 s310 s311 s312 s313 s314 s315 s316 s317 s318 s319 s320 s321 s322 s323 s324 s325 s326 s327 s328 s329 s330 s331 s332 s333 s334 s335 s336 s337 s338 s339 s340 s341 s342 s343 s344 s345 s346 s347 s348 s349 : Value} (hQ0 : ∀ e1 a1 w1, bodyPost Try.prog Try.f12 (fun e w' => e = .returned (.bool true) ∧ Below w.heap.size w w') e1 a1 w1 → Q0 e1 a1 w1) :
    Code.wp Try.prog (restOf Try.f12 14) Q0 ⟨#[s0, s1, .slice c.Ak c.kl.length c.ck, s3, s4, s5, s6, s7, s8, s9, s10, .pointer (some ⟨c.pb, 0, none⟩), fnAt c.ibm c.lbm, .pointer (some ⟨c.rb, 0, none⟩), .func (.func 68) #[] #[.pointer (some ⟨c.rb, 0, none⟩)], .int .i64 wn, .slice c.Ad c.ns.length c.cd, s17, s18, s19, s20, s21, s22, s23, s24, s25, s26, s27, s28, s29, s30, s31, s32, s33, s34, s35, s36, s37, s38, s39, s40, s41, s42, s43, s44, s45, s46, s47, s48, s49, s50, s51, s52, s53, s54, s55, s56, s57, s58, s59, s60, s61, s62, s63, s64, s65, s66, s67, s68, s69, s70, s71, s72, s73, s74, s75, s76, s77, s78, s79, s80, s81, s82, s83, s84, s85, s86, s87, s88, s89, s90, s91, s92, s93, s94, s95, s96, s97, s98, s99, s100, s101, s102, s103, s104, s105, s106, s107, s108, s109, s110, s111, s112, s113, s114, s115, s116, s117, s118, s119, s120, s121, s122, s123, s124, s125, s126, s127, s128, s129, s130, s131, s132, s133, s134, s135, s136, s137, s138, s139, s140, s141, s142, s143, s144, s145, s146, s147, s148, s149, s150, s151, s152, s153, s154, s155, s156, s157, s158, s159, s160, s161, s162, s163, s164, s165, s166, s167, s168, s169, s170, s171, s172, s173, s174, s175, s176, s177, s178, s179, s180, s181, s182, s183, s184, s185, s186, s187, s188, s189, s190, s191, s192, s193, s194, s195, s196, s197, s198, s199, s200, s201, s202, s203, s204, s205, s206, s207, s208, s209, s210, s211, s212, s213, s214, s215, s216, s217, s218, s219, s220, s221, s222, s223, s224, s225, s226, s227, s228, s229, s230, s231, s232, s233, s234, s235, s236, s237, s238, s239, s240, s241, s242, s243, s244, s245, s246, s247, s248, s249, s250, s251, s252, s253, s254, s255, s256, s257, s258, s259, s260, s261, s262, s263, s264, s265, s266, s267, s268, s269, s270, s271, s272, s273, s274, s275, s276, s277, s278, s279, s280, s281, s282, s283, s284, s285, s286, s287, s288, s289, s290, s291, s292, s293, s294, s295, s296, s297, s298, s299, s300, s301, s302, s303, s304, s305, s306, s307, s308, s309, s310, s311, s312, s313, s314, s315, s316, s317, s318, s319, s320, s321, s322, s323, s324, s325, s326, s327, s328, s329, s330, s331, s332, s333, s334, s335, s336, s337, s338, s339, s340, s341, s342, s343, s344, s345, s346, s347, s348, s349], []⟩ w1 := by
  refine wp_mono ?_ hQ0
  clear hQ0
  conv => arg 2; whnf
  have HE := Lib.hid (And.intro E (And.intro bel hck))
  have HN := Lib.hid (And.intro hns hkb)
  have HK := Lib.hid (next_some 11 E.nm (by decide))
  clear E bel hck hns hkb
  go_wp2_with fail
  refine HK.out.mono ?_
  rintro e X ⟨nv, rfl, ⟨x1, x2⟩, x3, x4, x5⟩
  obtain ⟨nd, rfl⟩ := Int.eq_ofNat_of_zero_le x1
  have SX := (ChS.start HE.out.1).next x3 x4 HE.out.1
  have EX := HE.out.1.at SX
  have bX : Below w.heap.size w X := HE.out.2.1.trans (x4.below (B := w.heap.size) HE.out.2.1.size (by simpa using hib.1))
  have HX := Lib.hid (And.intro EX bX)
  have hnd : nd ≤ 10 := by omega
  clear SX EX bX x3 x4 x5 x1 x2 HK
  go_wp2_with fail
  go_loopw [19, 20, 21, 83] (fun a b d i wx => ∃ (n : Nat) (A : Nat → Option Addr) (k : Nat → Nat) (ls lv : List (Int × Int)) (ld : List Int), n ≤ nd ∧ i = .int .i64 n ∧ a = .slice (A 0) n (k 0) ∧ b = .slice (A 1) n (k 1) ∧ d = .slice (A 2) n (k 2) ∧ ChS c X wx ∧ ChL X wx n A k ls lv ld) (fun _ _ _ i _ => nd - (intOf i).toNat)
  case atStart => exact ⟨0, fun _ => none, fun _ => 0, [], [], [], Nat.zero_le _, rfl, rfl, rfl, rfl, ChS.start HX.out.1, ChL.nil _ _⟩
  case round =>
    obtain ⟨n, A, k, ls, lv, ld, hn, rfl, rfl, rfl, rfl, hS, hL⟩ := hrel
    have HS := Lib.hid (And.intro hS hL)
    clear hS hL
    by_cases hlt : n < nd
    · refine charts_d HX.out.1 HS.out.1 HS.out.2 hlt hnd hw HN.out.1 hn5 hn0 HN.out.2 hkl hkc ?_
      intro _ _ _ _ _ _ _ _ _ _ _ _ _ _ _ _ _ _ _ _ _ _ _ _ _ _ _ _ _ _ _ _ _ _ _ _ _ _ _ _ _ _ _ _ _ _ _ _ _ _ _ _ _ _ _ _ _ _ _ _ _ _ _ _ _ _ _ _ _ _ _ _ _ _ _ _ _ _ _ _ _ _ _ _ _ _ _ _ _ _ _ _ _ _ _ _ _ _ _ _ _ _ _ _ _ _ _ _ _ _ _ _ _ _ _ _ _ _ _ _ _ _ _ _ _ _ _ _ _ _ _ _ _ _ _ _ _ _ _ _ _ _ _ _ _ _ _ _ _ _ _ _ _ _ _ _ _ _ _ _ _ _ _ _ _ _ _ _ _ _ _ _ _ _ _ _ _ _ _ _ _ _ _ _ _ A' k' s' v' d' w' hr
      refine ⟨?_, by simp [intOf]; omega⟩
      repeat apply Exists.intro
      refine ⟨?_, rfl⟩
      exact ⟨n + 1, A', k', s', v', d', by omega, by go_num, rfl, rfl, rfl, hr.1, hr.2⟩
    · obtain rfl : n = nd := by omega
      refine charts_x1 ?_
      simp only [Exit.inBlock, Exit.then, if_true]
      obtain ⟨q, l1, l2, l3, hT, hsn⟩ := HS.out.2
      have o1 := (l1 0 (by decide)).rd
      have o2 := (l1 1 (by decide)).rd
      have o3 := (l1 2 (by decide)).rd
      have bw : Below w.heap.size w wr := HX.out.2.trans (HS.out.1.kp.below HX.out.2.size (by simpa using hib))
      apply_assumption
      refine charts_t (w := w) (HX.out.1.at HS.out.1) HE.out.2.2 o1 o2 o3 hsn hnd hT bw ?_
      intro _ _ _ h
      exact h
end Go.Proofs.Ytfmhlnfcbbpfeaa
/- RestrictCharts: the loop of the district (printed by wip/tools/chm.py) -/
namespace Go.Proofs.Ytfmhlnfcbbpfeaa
open Go Go.RowKit Go.Lib Sp
set_option linter.unusedVariables false
set_option linter.unusedSimpArgs false

def blkAt (n : Nat) : Code → Code
  | .seq a b => if hasReg n a then blkAt n a else blkAt n b
  | .scope c => blkAt n c
  | c => c
set_option maxRecDepth 100000 in
set_option maxHeartbeats 4000000 in
theorem charts_l {w4 : World} {wn L : Nat} {A6 : Option Addr} {c6 : Nat} {l5 : List Int} (hw4 : 1 ≤ wn ∧ wn ≤ 4) (hL5 : L ≤ 5) (hLl : L ≤ l5.length) (hr6 : Rd w4 1 A6 L (byts (l5.take L))) (hl5 : Bytes l5) {s0 s1 s2 s3 s4 s5 s6 s7 s8 s9 s10 s11 s12 s13 s14 s17 s18 s19 s20 s21 s22 s23 s24 s25 s26 s27 s28 s29 s30 s31 s32 s33 s34 s35 s36 s37 s38 s39 s40 s41 s42 s43 s44 s45 s46 s47 s48 s49 s50 s51 s52 s53 s54 s55 s56 s57 s58 s59 s60 s61 s62 s66 s67 s68 s69 s70 s71 s72 s73 s74 s75 s76 s77 s78 s79 s80 s81 s82 s83 s84 s85 s86 s87 s88 s89 s90 s91 s92 s93 s94 s95 s96 s97 s98 s99 s100 s101 s102 s103 s104 s105 s106 s107 s108 s109 s110 s111 s112 s113 s114 s115 s116 s117 s118 s119 s120 s121 s122 s123 s124 s125 s126 s127 s128 s129 s130 s131 s132 s133 s134 s135 s136 s137 s138 s139 s140 s141 s142 s143 s144 s145 s146 s147 s148 s149 s150 s151 s152 s153 s154 s155 s156 s157 s158 s159 s160 s161 s162 s163 s164 s165 s166 s167 s168 s169 s170 s171 s172 s173 s174 s175 s176 s177 s178 s179 s180 s181 s182 s183 s184 s185 s186 s187 s188 s189 s190 s191 s192 s193 s194 s195 s196 s197 s198 s199 s200 s201 s202 s203 s204 s205 s206 s207 s208 s209 s210 s211 s212 s213 s214 s215 s216 s217 s218 s219 s220 s221 s222 s223 s224 s225 s226 s227 s228 s229 s230 s231 s232 s233 s234 s235 s236 s237 s238 s239 s240 s241 s242 s243 s244 s245 s246 s247 s248 s249 s250 s251 s252 s253 s254 s255 s256 s257 s258 s259 s260 s261 s262 s263 s264 s265 s266 s267 s268 s269 s270 s271 s272 s273 s274 s275 s276 s277 s278 s279 s280 s281 s282 s283 s284 s285 s286 s287 s288 s289 s290 s291 s292 s293 s294 s295 s296 s297 s298 s299 s300 s301 s302 s303 s304 s305 s306 s307 s308 s309 s310 s311 s312 s313 s314 s315 s316 s317 s318 s319 s320 s321 s322 s323 s324 s325 s326 s327 s328 s329 s330 s331 s332 s333 s334 s335 s336 s337 s338 s339 s340 s341 s342 s343 s344 s345 s346 s347 s348 s349 : Value} {Q0 : Exit → Act → World → Prop}
    (hInv : ∀ (t18 t65 t66 t67 t68 t69 t70 t71 t72 t73 t74 t75 t76 : Value) (Ao : Option Addr) (co : Nat) (ns : List Int) (q : List Nat) (w' : World), (OwnA w' 3 Ao L co (ints ns) q ∧ (∀ y ∈ ns, 0 ≤ y ∧ y < (wn : Int)) ∧ (∀ y ∈ q, w4.heap.size ≤ y) ∧ Keep [] w4 w') → Q0 .normal ⟨#[s0, s1, s2, s3, s4, s5, s6, s7, s8, s9, s10, s11, s12, s13, s14, .int .i64 wn, .slice Ao L co, s17, t18, s19, s20, s21, s22, s23, s24, s25, s26, s27, s28, s29, s30, s31, s32, s33, s34, s35, s36, s37, s38, s39, s40, s41, s42, s43, s44, s45, s46, s47, s48, s49, s50, s51, s52, s53, s54, s55, s56, s57, s58, s59, s60, s61, s62, .slice A6 L c6, .int .i64 L, t65, t66, t67, t68, t69, t70, t71, t72, t73, t74, t75, t76, s77, s78, s79, s80, s81, s82, s83, s84, s85, s86, s87, s88, s89, s90, s91, s92, s93, s94, s95, s96, s97, s98, s99, s100, s101, s102, s103, s104, s105, s106, s107, s108, s109, s110, s111, s112, s113, s114, s115, s116, s117, s118, s119, s120, s121, s122, s123, s124, s125, s126, s127, s128, s129, s130, s131, s132, s133, s134, s135, s136, s137, s138, s139, s140, s141, s142, s143, s144, s145, s146, s147, s148, s149, s150, s151, s152, s153, s154, s155, s156, s157, s158, s159, s160, s161, s162, s163, s164, s165, s166, s167, s168, s169, s170, s171, s172, s173, s174, s175, s176, s177, s178, s179, s180, s181, s182, s183, s184, s185, s186, s187, s188, s189, s190, s191, s192, s193, s194, s195, s196, s197, s198, s199, s200, s201, s202, s203, s204, s205, s206, s207, s208, s209, s210, s211, s212, s213, s214, s215, s216, s217, s218, s219, s220, s221, s222, s223, s224, s225, s226, s227, s228, s229, s230, s231, s232, s233, s234, s235, s236, s237, s238, s239, s240, s241, s242, s243, s244, s245, s246, s247, s248, s249, s250, s251, s252, s253, s254, s255, s256, s257, s258, s259, s260, s261, s262, s263, s264, s265, s266, s267, s268, s269, s270, s271, s272, s273, s274, s275, s276, s277, s278, s279, s280, s281, s282, s283, s284, s285, s286, s287, s288, s289, s290, s291, s292, s293, s294, s295, s296, s297, s298, s299, s300, s301, s302, s303, s304, s305, s306, s307, s308, s309, s310, s311, s312, s313, s314, s315, s316, s317, s318, s319, s320, s321, s322, s323, s324, s325, s326, s327, s328, s329, s330, s331, s332, s333, s334, s335, s336, s337, s338, s339, s340, s341, s342, s343, s344, s345, s346, s347, s348, s349], []⟩ w') :
    Code.wp Try.prog (blkAt 8 (Try.f12.body.getD .skip)) Q0 ⟨#[s0, s1, s2, s3, s4, s5, s6, s7, s8, s9, s10, s11, s12, s13, s14, .int .i64 wn, .slice none 0 0, s17, s18, s19, s20, s21, s22, s23, s24, s25, s26, s27, s28, s29, s30, s31, s32, s33, s34, s35, s36, s37, s38, s39, s40, s41, s42, s43, s44, s45, s46, s47, s48, s49, s50, s51, s52, s53, s54, s55, s56, s57, s58, s59, s60, s61, s62, .slice A6 L c6, .int .i64 L, .int .i64 0, s66, s67, s68, s69, s70, s71, s72, s73, s74, s75, s76, s77, s78, s79, s80, s81, s82, s83, s84, s85, s86, s87, s88, s89, s90, s91, s92, s93, s94, s95, s96, s97, s98, s99, s100, s101, s102, s103, s104, s105, s106, s107, s108, s109, s110, s111, s112, s113, s114, s115, s116, s117, s118, s119, s120, s121, s122, s123, s124, s125, s126, s127, s128, s129, s130, s131, s132, s133, s134, s135, s136, s137, s138, s139, s140, s141, s142, s143, s144, s145, s146, s147, s148, s149, s150, s151, s152, s153, s154, s155, s156, s157, s158, s159, s160, s161, s162, s163, s164, s165, s166, s167, s168, s169, s170, s171, s172, s173, s174, s175, s176, s177, s178, s179, s180, s181, s182, s183, s184, s185, s186, s187, s188, s189, s190, s191, s192, s193, s194, s195, s196, s197, s198, s199, s200, s201, s202, s203, s204, s205, s206, s207, s208, s209, s210, s211, s212, s213, s214, s215, s216, s217, s218, s219, s220, s221, s222, s223, s224, s225, s226, s227, s228, s229, s230, s231, s232, s233, s234, s235, s236, s237, s238, s239, s240, s241, s242, s243, s244, s245, s246, s247, s248, s249, s250, s251, s252, s253, s254, s255, s256, s257, s258, s259, s260, s261, s262, s263, s264, s265, s266, s267, s268, s269, s270, s271, s272, s273, s274, s275, s276, s277, s278, s279, s280, s281, s282, s283, s284, s285, s286, s287, s288, s289, s290, s291, s292, s293, s294, s295, s296, s297, s298, s299, s300, s301, s302, s303, s304, s305, s306, s307, s308, s309, s310, s311, s312, s313, s314, s315, s316, s317, s318, s319, s320, s321, s322, s323, s324, s325, s326, s327, s328, s329, s330, s331, s332, s333, s334, s335, s336, s337, s338, s339, s340, s341, s342, s343, s344, s345, s346, s347, s348, s349], []⟩ w4 := by
  refine wp_mono (Q := Exit.then (fun a x => Q0 .normal a x) (fun _ _ _ => False)) ?_ (by intro e a x h; cases e <;> first | exact h | exact h.elim)
  conv => arg 2; whnf
  obtain ⟨iI, hI0, hI1, hI2, hI3⟩ := info_parts info_int
  have HI := Lib.hid hInv
  have HR6 := Lib.hid hr6
  have HL5 := Lib.hid hl5
  clear hInv hr6 hl5
  go_wp2_with fail
  go_loopw [16, 65] (fun o i wr => ∃ (j : Nat) (Ao : Option Addr) (co : Nat) (ns : List Int) (q : List Nat), j ≤ L ∧ i = .int .i64 j ∧ o = .slice Ao j co ∧ OwnA wr 3 Ao j co (ints ns) q ∧ (∀ y ∈ ns, 0 ≤ y ∧ y < (wn : Int)) ∧ (∀ y ∈ q, w4.heap.size ≤ y) ∧ Keep [] w4 wr) (fun _ i _ => L - (intOf i).toNat)
  case atStart => exact ⟨0, none, 0, [], [], Nat.zero_le _, rfl, rfl, OwnA.nil _ _, (fun y hy => by cases hy), (fun y hy => by cases hy), Keep.refl _ _⟩
  case round =>
    obtain ⟨j, Ao, co, ns, q, hj, rfl, rfl, hown, hns, hq, hK⟩ := hrel
    have HS := Lib.hid (And.intro hown (And.intro hns (And.intro hq hK)))
    clear hown hns hq hK
    by_cases hlt : j < L
    · obtain ⟨b6, o6, rfl, z6, k6⟩ := HR6.out.2 (by omega)
      obtain ⟨y, hy⟩ : ∃ y, y = (l5.take L).getD j 0 := ⟨_, rfl⟩
      have hb := (show Bytes (l5.take L) from fun z hz => HL5.out z (List.mem_of_mem_take hz)).get j
      rw [← hy] at hb
      have e0 : wr.cell? ⟨b6, o6 + j, none⟩ = some (.int .u8 y) := HS.out.2.2.2.cell (by rw [hy]; exact k6 j _ (byts_get (by rw [List.length_take]; omega))) (by simp)
      have zb := World.block_lt_of_cell? _ _ e0
      have n1 : (0 : Int) ≤ (j : Int) := by omega
      have n2 : (j : Int) < (L : Int) := by omega
      have w1' : IntKind.i64.wrap y = y := IntWalk.i64_in _ (by omega)
      obtain ⟨t1, t2⟩ := tmod_bd (a := y) (b := (wn : Int)) hb.1 (by omega)
      obtain ⟨tm, htm⟩ : ∃ tm, Int.tmod y (wn : Int) = tm := ⟨_, rfl⟩
      rw [htm] at t1 t2
      have w2' : IntKind.i64.wrap tm = tm := IntWalk.i64_in _ (by omega)
      have n3 : ¬ (wn : Int) = 0 := by omega
      clear hy k6 z6
      go_wp2_with (at_builtin
                   refine wpList_append_A rfl (.tmp 69) (.tmp 74) 27 rfl iI _ 8 Try.underlying27 hI0 hI1 hI2 hI3 rfl (A := Ao) (n := j) (c := co) (xs := ints ns) (fp := q) (by simp [Act.eval]) _ (by simp [Act.eval]) (.int .i64 tm) (HS.out.1.alloc _) (cell_new_one _ _ _) rfl (by omega) (by omega) ?_
                   intro g1 off1 c1' w5 h1 h2 h3 h4
                   have HQ := Lib.hid (And.intro h1 (And.intro h2 h4))
                   clear h1 h2 h3 h4)
      go_roundw
      case measure => simp [intOf]; omega
      case rel =>
        obtain ⟨h1, h2, h4⟩ := HQ.out
        refine ⟨j + 1, some ⟨g1, off1, none⟩, c1', ns ++ [tm], [g1], by omega, by go_num, rfl, by simpa [ints] using h1, fun z hz => ?_, fun z hz => ?_, (HS.out.2.2.2.alloc _).trans h4 (fun z hz => .inr (HS.out.2.2.1 z hz))⟩
        · rcases List.mem_append.1 hz with hz | hz
          · exact HS.out.2.1 z hz
          · rw [List.mem_singleton.1 hz]; exact ⟨t1, t2⟩
        · rw [List.mem_singleton.1 hz]
          rcases h2 with h2 | h2
          · exact HS.out.2.2.1 _ h2
          · have := HS.out.2.2.2.size; simp at h2; omega
    · obtain rfl : j = L := by omega
      go_wp2_with fail
      exact HI.out _ _ _ _ _ _ _ _ _ _ _ _ _ _ _ _ _ _ HS.out

end Go.Proofs.Ytfmhlnfcbbpfeaa
/- RestrictCharts: the district's numbers (printed by wip/tools/chm.py) -/
namespace Go.Proofs.Ytfmhlnfcbbpfeaa
open Go Go.RowKit Go.Lib Sp
set_option linter.unusedVariables false
set_option linter.unusedSimpArgs false

def regAt (n : Nat) : Code → Code
  | .seq a b => if hasReg n a then regAt n a else regAt n b
  | .scope c => regAt n c
  | c => c
def firstReg (n : Nat) : Code → Bool
  | .region k _ _ => k == n
  | _ => false
def parAt (n : Nat) : Code → Code
  | .seq a b => if firstReg n a then .seq a b else if hasReg n a then parAt n a else parAt n b
  | .scope c => parAt n c
  | c => c
set_option maxRecDepth 100000 in
set_option maxHeartbeats 4000000 in
theorem charts_s {w4 : World} {A5 : Option Addr} {c5 : Nat} {l5 : List Int} (hm5 : l5.length ≤ 9223372036854775800) (hr5 : Rd w4 1 A5 l5.length (byts l5)) (hc5 : l5.length ≤ c5 ∧ c5 ≤ 9223372036854775807) (hn5 : A5 = none → l5.length = 0) {s0 s1 s2 s3 s5 s6 s7 s8 s9 s10 s11 s12 s13 s14 s15 s16 s17 s18 s19 s20 s21 s22 s23 s24 s25 s26 s27 s28 s29 s30 s31 s32 s33 s34 s35 s36 s37 s38 s39 s40 s41 s42 s43 s44 s45 s46 s47 s48 s49 s50 s51 s52 s53 s54 s55 s56 s57 s58 s59 s60 s61 s62 s63 s64 s65 s66 s67 s68 s69 s70 s71 s72 s73 s74 s75 s76 s77 s78 s79 s80 s81 s82 s83 s84 s85 s86 s87 s88 s89 s90 s91 s92 s93 s94 s95 s96 s97 s98 s99 s100 s101 s102 s103 s104 s105 s106 s107 s108 s109 s110 s111 s112 s113 s114 s115 s116 s117 s118 s119 s120 s121 s122 s123 s124 s125 s126 s127 s128 s129 s130 s131 s132 s133 s134 s135 s136 s137 s138 s139 s140 s141 s142 s143 s144 s145 s146 s147 s148 s149 s150 s151 s152 s153 s154 s155 s156 s157 s158 s159 s160 s161 s162 s163 s164 s165 s166 s167 s168 s169 s170 s171 s172 s173 s174 s175 s176 s177 s178 s179 s180 s181 s182 s183 s184 s185 s186 s187 s188 s189 s190 s191 s192 s193 s194 s195 s196 s197 s198 s199 s200 s201 s202 s203 s204 s205 s206 s207 s208 s209 s210 s211 s212 s213 s214 s215 s216 s217 s218 s219 s220 s221 s222 s223 s224 s225 s226 s227 s228 s229 s230 s231 s232 s233 s234 s235 s236 s237 s238 s239 s240 s241 s242 s243 s244 s245 s246 s247 s248 s249 s250 s251 s252 s253 s254 s255 s256 s257 s258 s259 s260 s261 s262 s263 s264 s265 s266 s267 s268 s269 s270 s271 s272 s273 s274 s275 s276 s277 s278 s279 s280 s281 s282 s283 s284 s285 s286 s287 s288 s289 s290 s291 s292 s293 s294 s295 s296 s297 s298 s299 s300 s301 s302 s303 s304 s305 s306 s307 s308 s309 s310 s311 s312 s313 s314 s315 s316 s317 s318 s319 s320 s321 s322 s323 s324 s325 s326 s327 s328 s329 s330 s331 s332 s333 s334 s335 s336 s337 s338 s339 s340 s341 s342 s343 s344 s345 s346 s347 s348 s349 : Value} {Q0 : Exit → Act → World → Prop}
    (hInv : ∀ (t59 t60 t61 t62 : Value) (A6 : Option Addr) (c6 L : Nat) (w' : World), (w4 = w' ∧ L ≤ 5 ∧ L ≤ l5.length ∧ Rd w4 1 A6 L (byts (l5.take L))) → Q0 .normal ⟨#[s0, s1, s2, s3, .slice A5 l5.length c5, s5, s6, s7, s8, s9, s10, s11, s12, s13, s14, s15, s16, s17, s18, s19, s20, s21, s22, s23, s24, s25, s26, s27, s28, s29, s30, s31, s32, s33, s34, s35, s36, s37, s38, s39, s40, s41, s42, s43, s44, s45, s46, s47, s48, s49, s50, s51, s52, s53, s54, s55, s56, s57, s58, t59, t60, t61, t62, .slice A6 L c6, .int .i64 L, .int .i64 0, s66, s67, s68, s69, s70, s71, s72, s73, s74, s75, s76, s77, s78, s79, s80, s81, s82, s83, s84, s85, s86, s87, s88, s89, s90, s91, s92, s93, s94, s95, s96, s97, s98, s99, s100, s101, s102, s103, s104, s105, s106, s107, s108, s109, s110, s111, s112, s113, s114, s115, s116, s117, s118, s119, s120, s121, s122, s123, s124, s125, s126, s127, s128, s129, s130, s131, s132, s133, s134, s135, s136, s137, s138, s139, s140, s141, s142, s143, s144, s145, s146, s147, s148, s149, s150, s151, s152, s153, s154, s155, s156, s157, s158, s159, s160, s161, s162, s163, s164, s165, s166, s167, s168, s169, s170, s171, s172, s173, s174, s175, s176, s177, s178, s179, s180, s181, s182, s183, s184, s185, s186, s187, s188, s189, s190, s191, s192, s193, s194, s195, s196, s197, s198, s199, s200, s201, s202, s203, s204, s205, s206, s207, s208, s209, s210, s211, s212, s213, s214, s215, s216, s217, s218, s219, s220, s221, s222, s223, s224, s225, s226, s227, s228, s229, s230, s231, s232, s233, s234, s235, s236, s237, s238, s239, s240, s241, s242, s243, s244, s245, s246, s247, s248, s249, s250, s251, s252, s253, s254, s255, s256, s257, s258, s259, s260, s261, s262, s263, s264, s265, s266, s267, s268, s269, s270, s271, s272, s273, s274, s275, s276, s277, s278, s279, s280, s281, s282, s283, s284, s285, s286, s287, s288, s289, s290, s291, s292, s293, s294, s295, s296, s297, s298, s299, s300, s301, s302, s303, s304, s305, s306, s307, s308, s309, s310, s311, s312, s313, s314, s315, s316, s317, s318, s319, s320, s321, s322, s323, s324, s325, s326, s327, s328, s329, s330, s331, s332, s333, s334, s335, s336, s337, s338, s339, s340, s341, s342, s343, s344, s345, s346, s347, s348, s349], []⟩ w') :
    Code.wp Try.prog (regAt 7 (Try.f12.body.getD .skip)) Q0 ⟨#[s0, s1, s2, s3, .slice A5 l5.length c5, s5, s6, s7, s8, s9, s10, s11, s12, s13, s14, s15, s16, s17, s18, s19, s20, s21, s22, s23, s24, s25, s26, s27, s28, s29, s30, s31, s32, s33, s34, s35, s36, s37, s38, s39, s40, s41, s42, s43, s44, s45, s46, s47, s48, s49, s50, s51, s52, s53, s54, s55, s56, s57, s58, s59, s60, s61, s62, s63, s64, s65, s66, s67, s68, s69, s70, s71, s72, s73, s74, s75, s76, s77, s78, s79, s80, s81, s82, s83, s84, s85, s86, s87, s88, s89, s90, s91, s92, s93, s94, s95, s96, s97, s98, s99, s100, s101, s102, s103, s104, s105, s106, s107, s108, s109, s110, s111, s112, s113, s114, s115, s116, s117, s118, s119, s120, s121, s122, s123, s124, s125, s126, s127, s128, s129, s130, s131, s132, s133, s134, s135, s136, s137, s138, s139, s140, s141, s142, s143, s144, s145, s146, s147, s148, s149, s150, s151, s152, s153, s154, s155, s156, s157, s158, s159, s160, s161, s162, s163, s164, s165, s166, s167, s168, s169, s170, s171, s172, s173, s174, s175, s176, s177, s178, s179, s180, s181, s182, s183, s184, s185, s186, s187, s188, s189, s190, s191, s192, s193, s194, s195, s196, s197, s198, s199, s200, s201, s202, s203, s204, s205, s206, s207, s208, s209, s210, s211, s212, s213, s214, s215, s216, s217, s218, s219, s220, s221, s222, s223, s224, s225, s226, s227, s228, s229, s230, s231, s232, s233, s234, s235, s236, s237, s238, s239, s240, s241, s242, s243, s244, s245, s246, s247, s248, s249, s250, s251, s252, s253, s254, s255, s256, s257, s258, s259, s260, s261, s262, s263, s264, s265, s266, s267, s268, s269, s270, s271, s272, s273, s274, s275, s276, s277, s278, s279, s280, s281, s282, s283, s284, s285, s286, s287, s288, s289, s290, s291, s292, s293, s294, s295, s296, s297, s298, s299, s300, s301, s302, s303, s304, s305, s306, s307, s308, s309, s310, s311, s312, s313, s314, s315, s316, s317, s318, s319, s320, s321, s322, s323, s324, s325, s326, s327, s328, s329, s330, s331, s332, s333, s334, s335, s336, s337, s338, s339, s340, s341, s342, s343, s344, s345, s346, s347, s348, s349], []⟩ w4 := by
  refine wp_mono (Q := Exit.then (fun a x => Q0 .normal a x) (fun _ _ _ => False)) ?_ (by intro e a x h; cases e <;> first | exact h | exact h.elim)
  conv => arg 2; whnf
  have HI := Lib.hid hInv
  clear hInv
  have HR := Lib.hid hr5
  have HN := Lib.hid hn5
  clear hr5 hn5
  by_cases hA : A5 = none
  · have h1 : l5.length = 0 := HN.out hA
    have e5 : l5 = [] := List.eq_nil_of_length_eq_zero h1
    subst hA e5
    go_wp2_with fail
    exact HI.out _ _ _ _ none _ 0 w4 ⟨rfl, by omega, by simp, Rd.nil _ _ _⟩
  · obtain ⟨ad, rfl⟩ : ∃ a, A5 = some a := by cases A5 with | none => exact absurd rfl hA | some a => exact ⟨a, rfl⟩
    clear hA
    obtain ⟨L5, hL5⟩ : ∃ L5, L5 = l5.length := ⟨_, rfl⟩
    have R4 := HR.out
    obtain ⟨Lc, hLc⟩ : ∃ Lc : Nat, (if (L5 : Int) < 5 then (L5 : Int) else 5) = (Lc : Int) ∧ Lc ≤ 5 ∧ Lc ≤ L5 := by
      by_cases h : (L5 : Int) < 5
      · exact ⟨L5, by rw [if_pos h], by omega, Nat.le_refl _⟩
      · exact ⟨5, by rw [if_neg h]; rfl, Nat.le_refl _, by omega⟩
    obtain ⟨hLc, hL6, hL7⟩ := hLc
    have hmin : (if (5 : Int) < (L5 : Int) then (5 : Int) else (L5 : Int)) = (Lc : Int) := by
      rw [← hLc]; by_cases h : (L5 : Int) < 5
      · rw [if_pos h, if_neg (by omega)]
      · rw [if_neg h]; by_cases h2 : (5 : Int) < (L5 : Int)
        · rw [if_pos h2]
        · rw [if_neg h2]; omega
    have n1 : (0 : Int) ≤ (Lc : Int) := by omega
    have n2 : (Lc : Int) ≤ (c5 : Int) := by omega
    have n3 : (Lc : Int) ≤ (L5 : Int) := by omega
    have n4 : Lc ≤ c5 := by omega
    have HR4 := Lib.hid R4
    have HL5 := Lib.hid hL5
    clear R4
    rw [← hL5]
    clear hL5
    go_wp2_with fail
    rw [HL5.out]
    refine HI.out _ _ _ _ (some ad) c5 Lc w4 ⟨rfl, hL6, by rw [← HL5.out]; exact hL7, by have := HL5.out; simp only [byts, List.length_map, List.length_take]; omega, fun h0 => ?_⟩
    obtain ⟨b, off, e, z, kk⟩ := HR4.out.2 (by have := HL5.out; omega)
    refine ⟨b, off, e, z, fun j u hu => kk j u ?_⟩
    rw [show byts (l5.take Lc) = (byts l5).take Lc from by simp [byts, List.map_take], List.getElem?_take] at hu
    split at hu
    · exact hu
    · cases hu

end Go.Proofs.Ytfmhlnfcbbpfeaa
/- RestrictCharts: the district is not empty (printed by wip/tools/chm.py) -/
namespace Go.Proofs.Ytfmhlnfcbbpfeaa
open Go Go.RowKit Go.Lib Sp
set_option linter.unusedVariables false
set_option linter.unusedSimpArgs false

set_option maxRecDepth 100000 in
set_option maxHeartbeats 4000000 in
theorem charts_m {w4 w0 : World} {wn j : Nat} {Ao : Option Addr} {co : Nat} {ns : List Int} {q : List Nat} (hw4 : 1 ≤ wn ∧ wn ≤ 4) (hL5 : j ≤ 5) (hs : OwnA w4 3 Ao j co (ints ns) q ∧ (∀ y ∈ ns, 0 ≤ y ∧ y < (wn : Int)) ∧ (∀ y ∈ q, w0.heap.size ≤ y) ∧ Keep [] w0 w4) {s0 s1 s2 s3 s4 s5 s6 s7 s8 s9 s10 s11 s12 s13 s14 s15 s17 s18 s19 s20 s21 s22 s23 s24 s25 s26 s27 s28 s29 s30 s31 s32 s33 s34 s35 s36 s37 s38 s39 s40 s41 s42 s43 s44 s45 s46 s47 s48 s49 s50 s51 s52 s53 s54 s55 s56 s57 s58 s59 s60 s61 s62 s63 s64 s65 s66 s67 s68 s69 s70 s71 s72 s73 s74 s75 s76 s77 s78 s79 s80 s81 s82 s83 s84 s85 s86 s87 s88 s89 s90 s91 s92 s93 s94 s95 s96 s97 s98 s99 s100 s101 s102 s103 s104 s105 s106 s107 s108 s109 s110 s111 s112 s113 s114 s115 s116 s117 s118 s119 s120 s121 s122 s123 s124 s125 s126 s127 s128 s129 s130 s131 s132 s133 s134 s135 s136 s137 s138 s139 s140 s141 s142 s143 s144 s145 s146 s147 s148 s149 s150 s151 s152 s153 s154 s155 s156 s157 s158 s159 s160 s161 s162 s163 s164 s165 s166 s167 s168 s169 s170 s171 s172 s173 s174 s175 s176 s177 s178 s179 s180 s181 s182 s183 s184 s185 s186 s187 s188 s189 s190 s191 s192 s193 s194 s195 s196 s197 s198 s199 s200 s201 s202 s203 s204 s205 s206 s207 s208 s209 s210 s211 s212 s213 s214 s215 s216 s217 s218 s219 s220 s221 s222 s223 s224 s225 s226 s227 s228 s229 s230 s231 s232 s233 s234 s235 s236 s237 s238 s239 s240 s241 s242 s243 s244 s245 s246 s247 s248 s249 s250 s251 s252 s253 s254 s255 s256 s257 s258 s259 s260 s261 s262 s263 s264 s265 s266 s267 s268 s269 s270 s271 s272 s273 s274 s275 s276 s277 s278 s279 s280 s281 s282 s283 s284 s285 s286 s287 s288 s289 s290 s291 s292 s293 s294 s295 s296 s297 s298 s299 s300 s301 s302 s303 s304 s305 s306 s307 s308 s309 s310 s311 s312 s313 s314 s315 s316 s317 s318 s319 s320 s321 s322 s323 s324 s325 s326 s327 s328 s329 s330 s331 s332 s333 s334 s335 s336 s337 s338 s339 s340 s341 s342 s343 s344 s345 s346 s347 s348 s349 : Value} {Q0 : Exit → Act → World → Prop}
    (hInv : ∀ (t77 t78 t79 t80 : Value) (A' : Option Addr) (c' n' : Nat) (ns' : List Int) (q' : List Nat) (w' : World), (ns'.length = n' ∧ OwnA w' 3 A' n' c' (ints ns') q' ∧ (∀ y ∈ ns', 0 ≤ y ∧ y < (wn : Int)) ∧ (0 < n' ∧ n' ≤ 5) ∧ (∀ y ∈ q', w0.heap.size ≤ y) ∧ Keep [] w0 w') → Q0 .normal ⟨#[s0, s1, s2, s3, s4, s5, s6, s7, s8, s9, s10, s11, s12, s13, s14, s15, .slice A' n' c', s17, s18, s19, s20, s21, s22, s23, s24, s25, s26, s27, s28, s29, s30, s31, s32, s33, s34, s35, s36, s37, s38, s39, s40, s41, s42, s43, s44, s45, s46, s47, s48, s49, s50, s51, s52, s53, s54, s55, s56, s57, s58, s59, s60, s61, s62, s63, s64, s65, s66, s67, s68, s69, s70, s71, s72, s73, s74, s75, s76, t77, t78, t79, t80, s81, s82, s83, s84, s85, s86, s87, s88, s89, s90, s91, s92, s93, s94, s95, s96, s97, s98, s99, s100, s101, s102, s103, s104, s105, s106, s107, s108, s109, s110, s111, s112, s113, s114, s115, s116, s117, s118, s119, s120, s121, s122, s123, s124, s125, s126, s127, s128, s129, s130, s131, s132, s133, s134, s135, s136, s137, s138, s139, s140, s141, s142, s143, s144, s145, s146, s147, s148, s149, s150, s151, s152, s153, s154, s155, s156, s157, s158, s159, s160, s161, s162, s163, s164, s165, s166, s167, s168, s169, s170, s171, s172, s173, s174, s175, s176, s177, s178, s179, s180, s181, s182, s183, s184, s185, s186, s187, s188, s189, s190, s191, s192, s193, s194, s195, s196, s197, s198, s199, s200, s201, s202, s203, s204, s205, s206, s207, s208, s209, s210, s211, s212, s213, s214, s215, s216, s217, s218, s219, s220, s221, s222, s223, s224, s225, s226, s227, s228, s229, s230, s231, s232, s233, s234, s235, s236, s237, s238, s239, s240, s241, s242, s243, s244, s245, s246, s247, s248, s249, s250, s251, s252, s253, s254, s255, s256, s257, s258, s259, s260, s261, s262, s263, s264, s265, s266, s267, s268, s269, s270, s271, s272, s273, s274, s275, s276, s277, s278, s279, s280, s281, s282, s283, s284, s285, s286, s287, s288, s289, s290, s291, s292, s293, s294, s295, s296, s297, s298, s299, s300, s301, s302, s303, s304, s305, s306, s307, s308, s309, s310, s311, s312, s313, s314, s315, s316, s317, s318, s319, s320, s321, s322, s323, s324, s325, s326, s327, s328, s329, s330, s331, s332, s333, s334, s335, s336, s337, s338, s339, s340, s341, s342, s343, s344, s345, s346, s347, s348, s349], []⟩ w') :
    Code.wp Try.prog (parAt 12 (Try.f12.body.getD .skip)) Q0 ⟨#[s0, s1, s2, s3, s4, s5, s6, s7, s8, s9, s10, s11, s12, s13, s14, s15, .slice Ao j co, s17, s18, s19, s20, s21, s22, s23, s24, s25, s26, s27, s28, s29, s30, s31, s32, s33, s34, s35, s36, s37, s38, s39, s40, s41, s42, s43, s44, s45, s46, s47, s48, s49, s50, s51, s52, s53, s54, s55, s56, s57, s58, s59, s60, s61, s62, s63, s64, s65, s66, s67, s68, s69, s70, s71, s72, s73, s74, s75, s76, s77, s78, s79, s80, s81, s82, s83, s84, s85, s86, s87, s88, s89, s90, s91, s92, s93, s94, s95, s96, s97, s98, s99, s100, s101, s102, s103, s104, s105, s106, s107, s108, s109, s110, s111, s112, s113, s114, s115, s116, s117, s118, s119, s120, s121, s122, s123, s124, s125, s126, s127, s128, s129, s130, s131, s132, s133, s134, s135, s136, s137, s138, s139, s140, s141, s142, s143, s144, s145, s146, s147, s148, s149, s150, s151, s152, s153, s154, s155, s156, s157, s158, s159, s160, s161, s162, s163, s164, s165, s166, s167, s168, s169, s170, s171, s172, s173, s174, s175, s176, s177, s178, s179, s180, s181, s182, s183, s184, s185, s186, s187, s188, s189, s190, s191, s192, s193, s194, s195, s196, s197, s198, s199, s200, s201, s202, s203, s204, s205, s206, s207, s208, s209, s210, s211, s212, s213, s214, s215, s216, s217, s218, s219, s220, s221, s222, s223, s224, s225, s226, s227, s228, s229, s230, s231, s232, s233, s234, s235, s236, s237, s238, s239, s240, s241, s242, s243, s244, s245, s246, s247, s248, s249, s250, s251, s252, s253, s254, s255, s256, s257, s258, s259, s260, s261, s262, s263, s264, s265, s266, s267, s268, s269, s270, s271, s272, s273, s274, s275, s276, s277, s278, s279, s280, s281, s282, s283, s284, s285, s286, s287, s288, s289, s290, s291, s292, s293, s294, s295, s296, s297, s298, s299, s300, s301, s302, s303, s304, s305, s306, s307, s308, s309, s310, s311, s312, s313, s314, s315, s316, s317, s318, s319, s320, s321, s322, s323, s324, s325, s326, s327, s328, s329, s330, s331, s332, s333, s334, s335, s336, s337, s338, s339, s340, s341, s342, s343, s344, s345, s346, s347, s348, s349], []⟩ w4 := by
  refine wp_mono (Q := Exit.then (fun a x => Q0 .normal a x) (fun _ _ _ => False)) ?_ (by intro e a x h; cases e <;> first | exact h | exact h.elim)
  conv => arg 2; whnf
  have HI := Lib.hid hInv
  clear hInv
  have HS := Lib.hid hs
  clear hs
  by_cases h0 : j = 0
  · subst h0
    go_wp2_with fail
    refine HI.out _ _ _ _ (some ⟨w4.heap.size, 0, none⟩) 1 1 [0] [w4.heap.size] _ ⟨rfl, ⟨rfl, .inr ⟨_, 0, _, rfl, rfl, heap_alloc_new w4 _, Nat.le_refl _, by omega, rfl, fun i u hu => by simpa [ints] using hu⟩⟩, fun y hy => by rw [List.mem_singleton.1 hy]; omega, by simp, fun y hy => ?_, HS.out.2.2.2.alloc _⟩
    rw [List.mem_singleton.1 hy]; exact HS.out.2.2.2.size
  · have n1 : ¬ (j : Int) = 0 := by omega
    have hnl : ns.length = j := by have := HS.out.1.1; simpa [ints] using this
    have HNL := Lib.hid hnl
    clear h0 hnl
    go_wp2_with fail
    exact HI.out _ _ _ _ Ao co j ns q w4 ⟨HNL.out, HS.out.1, HS.out.2.1, by omega, HS.out.2.2.1, HS.out.2.2.2⟩

end Go.Proofs.Ytfmhlnfcbbpfeaa
/- RestrictCharts: the district (printed by wip/tools/chm.py) -/
namespace Go.Proofs.Ytfmhlnfcbbpfeaa
open Go Go.RowKit Go.Lib Sp
set_option linter.unusedVariables false
set_option linter.unusedSimpArgs false

theorem ChE.district {c : ChC} {w : World} (E : ChE c w) {Ad : Option Addr} {cd : Nat} {ns : List Int} (hr : Rd w 1 Ad ns.length (ints ns)) (ha : ApartOf ns.length Ad c.ibm c.ibr) : ChE { c with Ad := Ad, cd := cd, ns := ns } w :=
  ⟨E.blk, E.pol, E.rk, hr, E.nm, E.nr, E.rc, E.p1, E.a1, E.a2, ha⟩
set_option maxRecDepth 100000 in
set_option maxHeartbeats 4000000 in
theorem charts_v {Q0 : Exit → Act → World → Prop} {c : ChC} {w w1 : World} {wn : Nat} {A5 : Option Addr} {c5 : Nat} {l5 : List Int} (E : ChE c w1) (hck : checkS c.p = 0) (bel : Below w.heap.size w w1) (hib : w.heap.size ≤ c.ibm ∧ w.heap.size ≤ c.ibr) (hw : 1 ≤ wn ∧ wn ≤ 4) (hkb : Bytes c.kl) (hkl : c.kl.length ≤ 9223372036854775800) (hkc : c.kl.length ≤ c.ck ∧ c.ck ≤ 9223372036854775807) (hm5 : l5.length ≤ 9223372036854775800) (hr5 : Rd w1 1 A5 l5.length (byts l5)) (hl5 : Bytes l5) (hc5 : l5.length ≤ c5 ∧ c5 ≤ 9223372036854775807) (hn5 : A5 = none → l5.length = 0) {s0 s1 s3 s5 s6 s7 s8 s9 s10 s16 s17 s18 s19 s20 s21 s22 s23 s24 s25 s26 s27 s28 s29 s30 s31 s32 s33 s34 s35 s36 s37 s38 s39 s40 s41 s42 s43 s44 s45 s46 s47 s48 s49 s50 s51 s52 s53 s54 s55 s56 s57 s58 s59 s60 s61 s62 s63 s64 s65 s66 s67 s68 s69 s70 s71 s72 s73 s74 s75 s76 s77 s78 s79 s80 s81 s82 s83 s84 s85 s86 s87 s88 s89 s90 s91 s92 s93 s94 s95 s96 s97 s98 s99 s100 s101 s102 s103 s104 s105 s106 s107 s108 s109 s110 s111 s112 s113 s114 s115 s116 s117 s118 s119 s120 s121 s122 s123 s124 s125 s126 s127 s128 s129 s130 s131 s132 s133 s134 s135 s136 s137 s138 s139 s140 s141 s142 s143 s144 s145 s146 s147 s148 s149 s150 s151 s152 s153 s154 s155 s156 s157 s158 s159 s160 s161 s162 s163 s164 s165 s166 s167 s168 s169 s170 s171 s172 s173 s174 s175 s176 s177 s178 s179 s180 s181 s182 s183 s184 s185 s186 s187 s188 s189 s190 s191 s192 s193 s194 s195 s196 s197 s198 s199 s200 s201 s202 s203 s204 s205 s206 s207 s208 s209 s210 s211 s212 s213 s214 s215 s216 s217 s218 s219 s220 s221 s222 s223 s224 s225 s226 s227 s228 s229 s230 s231 s232 s233 s234 s235 s236 s237 s238 s239 s240 s241 s242 s243 s244 s245 s246 s247 s248 s249 s250 s251 s252 s253 s254 s255 s256 s257 s258 s259 s260 s261 s262 s263 s264 s265 s266 s267 s268 s269 s270 s271 s272 s273 s274 s275 s276 s277 s278 s279 s280 s281 s282 s283 s284 s285 s286 s287 s288 s289 s290 s291 s292 s293 s294 s295 s296 s297 s298 s299 s300 s301 s302 s303 s304 s305 s306 s307 s308 s309 s310 s311 s312 s313 s314 s315 s316 s317 s318 s319 s320 s321 s322 s323 s324 s325 s326 s327 s328 s329 s330 s331 s332 s333 s334 s335 s336 s337 s338 s339 s340 s341 s342 s343 s344 s345 s346 s347 s348 s349 : Value} (hQ0 : ∀ e1 a1 w1, bodyPost Try.prog Try.f12 (fun e w' => e = .returned (.bool true) ∧ Below w.heap.size w w') e1 a1 w1 → Q0 e1 a1 w1) :
    Code.wp Try.prog (restOf Try.f12 6) Q0 ⟨#[s0, s1, .slice c.Ak c.kl.length c.ck, s3, .slice A5 l5.length c5, s5, s6, s7, s8, s9, s10, .pointer (some ⟨c.pb, 0, none⟩), fnAt c.ibm c.lbm, .pointer (some ⟨c.rb, 0, none⟩), .func (.func 68) #[] #[.pointer (some ⟨c.rb, 0, none⟩)], .int .i64 wn, s16, s17, s18, s19, s20, s21, s22, s23, s24, s25, s26, s27, s28, s29, s30, s31, s32, s33, s34, s35, s36, s37, s38, s39, s40, s41, s42, s43, s44, s45, s46, s47, s48, s49, s50, s51, s52, s53, s54, s55, s56, s57, s58, s59, s60, s61, s62, s63, s64, s65, s66, s67, s68, s69, s70, s71, s72, s73, s74, s75, s76, s77, s78, s79, s80, s81, s82, s83, s84, s85, s86, s87, s88, s89, s90, s91, s92, s93, s94, s95, s96, s97, s98, s99, s100, s101, s102, s103, s104, s105, s106, s107, s108, s109, s110, s111, s112, s113, s114, s115, s116, s117, s118, s119, s120, s121, s122, s123, s124, s125, s126, s127, s128, s129, s130, s131, s132, s133, s134, s135, s136, s137, s138, s139, s140, s141, s142, s143, s144, s145, s146, s147, s148, s149, s150, s151, s152, s153, s154, s155, s156, s157, s158, s159, s160, s161, s162, s163, s164, s165, s166, s167, s168, s169, s170, s171, s172, s173, s174, s175, s176, s177, s178, s179, s180, s181, s182, s183, s184, s185, s186, s187, s188, s189, s190, s191, s192, s193, s194, s195, s196, s197, s198, s199, s200, s201, s202, s203, s204, s205, s206, s207, s208, s209, s210, s211, s212, s213, s214, s215, s216, s217, s218, s219, s220, s221, s222, s223, s224, s225, s226, s227, s228, s229, s230, s231, s232, s233, s234, s235, s236, s237, s238, s239, s240, s241, s242, s243, s244, s245, s246, s247, s248, s249, s250, s251, s252, s253, s254, s255, s256, s257, s258, s259, s260, s261, s262, s263, s264, s265, s266, s267, s268, s269, s270, s271, s272, s273, s274, s275, s276, s277, s278, s279, s280, s281, s282, s283, s284, s285, s286, s287, s288, s289, s290, s291, s292, s293, s294, s295, s296, s297, s298, s299, s300, s301, s302, s303, s304, s305, s306, s307, s308, s309, s310, s311, s312, s313, s314, s315, s316, s317, s318, s319, s320, s321, s322, s323, s324, s325, s326, s327, s328, s329, s330, s331, s332, s333, s334, s335, s336, s337, s338, s339, s340, s341, s342, s343, s344, s345, s346, s347, s348, s349], []⟩ w1 := by
  refine wp_mono ?_ hQ0
  clear hQ0
  conv => arg 2; whnf
  have HE := Lib.hid (And.intro E (And.intro bel hck))
  have HKB := Lib.hid hkb
  clear E bel hck hkb
  go_upto_region 7 with fail
  refine charts_s hm5 hr5 hc5 hn5 ?_
  intros
  rename_i A6 c6 j wr hr
  obtain ⟨rfl, hL5, hLl, hr6⟩ := hr
  simp only [Exit.then]
  apply_assumption
  refine charts_l hw hL5 hLl hr6 hl5 ?_
  intros
  rename_i Ao co ns q wr hr
  simp only [Exit.then]
  apply_assumption
  refine wp_seq ?_
  refine charts_m hw hL5 hr ?_
  intros
  rename_i Ad cd n' ns' q' w5 hr2
  obtain ⟨rfl, hown, hns, hlen, hq, hK⟩ := hr2
  have hlt4 : c.ibm < w1.heap.size ∧ c.ibr < w1.heap.size := ⟨HE.out.1.nm.lt.1, HE.out.1.nr.lt.1⟩
  have E5 := (HE.out.1.at ((ChS.start HE.out.1).keep hK (by simp) HE.out.1)).district (cd := cd) hown.rd (fun h0 b off e => by have := hq b (hown.mem_ h0 e); omega)
  have b5 := HE.out.2.1.trans (hK.below HE.out.2.1.size (by simp))
  simp only [Exit.then]
  refine charts_u (w := w) (c := { c with Ad := Ad, cd := cd, ns := ns' }) E5 HE.out.2.2 b5 hib hw HKB.out hkl hkc hns hlen.2 hlen.1 ?_
  intro _ _ _ h
  exact h
end Go.Proofs.Ytfmhlnfcbbpfeaa
