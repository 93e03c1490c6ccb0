/- RestrictCharts: the end of a day (printed by wip/tools/chb.py) -/
import Derived.Test.YtfmhlnfcbbpfeaaRCp28
import Derived.Test.YtfmhlnfcbbpfeaaRCp11
import Derived.Deep.DeepCutAuto
set_option linter.unusedVariables false
namespace Go.Proofs.Ytfmhlnfcbbpfeaa
open Go Go.RowKit Go.Lib Sp
set_option linter.unusedVariables false
set_option linter.unusedSimpArgs false

set_option linter.unusedVariables false
def TlV (W0 : World) (A : Nat → Option Addr) (k : Nat → Nat) (ls lv : List (Int × Int)) (ld : List Int) (q : Nat → List Nat) (n : Nat) (a0 b0 x0 y0 m0 : Int) (s : S3) : Nat → Value → Prop
  | 0, v => v = .slice (A 0) n (k 0)
  | 1, v => v = .agg #[.int .i64 a0, .int .i64 b0]
  | 2, v => v = .slice (some ⟨s.b 0, 0, none⟩) 1 1
  | 3, v => v = .slice (s.A 0) (n + 1) (s.c 0)
  | 4, v => v = .slice (A 1) n (k 1)
  | 5, v => v = .agg #[.int .i64 x0, .int .i64 y0]
  | 6, v => v = .slice (some ⟨s.b 1, 0, none⟩) 1 1
  | 7, v => v = .slice (s.A 1) (n + 1) (s.c 1)
  | 8, v => v = .slice (A 2) n (k 2)
  | 9, v => v = .int .i64 m0
  | 10, v => v = .slice (some ⟨s.b 2, 0, none⟩) 1 1
  | 11, v => v = .slice (s.A 2) (n + 1) (s.c 2)
  | 12, v => v = .slice (s.A 0) (n + 1) (s.c 0)
  | 13, v => v = .slice (s.A 1) (n + 1) (s.c 1)
  | 14, v => v = .slice (s.A 2) (n + 1) (s.c 2)
  | _, _ => True
def TlW (W0 : World) (A : Nat → Option Addr) (k : Nat → Nat) (ls lv : List (Int × Int)) (ld : List Int) (q : Nat → List Nat) (n : Nat) (a0 b0 x0 y0 m0 : Int) (s : S3) (l : Nat → Bool) (w : World) : Prop := G3 (chP ls lv ld A k q a0 b0 x0 y0 m0) n W0 s l w
set_option maxRecDepth 100000 in
set_option maxHeartbeats 4000000 in
theorem charts_b {c : ChC} {X W0 w1 : World} {n : Nat} {A : Nat → Option Addr} {k : Nat → Nat} {ls lv : List (Int × Int)} {ld : List Int} {Af : Option Addr} {cf : Nat} {f : List Ice} {sa sb : Nat} {a0 b0 x0 y0 : Int} (E : ChE c X) (S0 : ChS c X W0) (S1 : ChS c W0 w1) (L : ChL X W0 n A k ls lv ld) (hn10 : n ≤ 10) (hf : Rd w1 4 Af f.length (ics f)) (hfo : ∀ x ∈ f, iceOk x = true) (hns : ∀ x ∈ c.ns, 0 ≤ x ∧ x < f.length) (hn5 : c.ns.length ≤ 5)
    (ha : w1.heap[sa]? = some (.cells #[.int .i64 a0, .int .i64 b0] 42 (0, 0))) (hb : w1.heap[sb]? = some (.cells #[.int .i64 x0, .int .i64 y0] 42 (0, 0))) (hq : W0.heap.size ≤ sa ∧ W0.heap.size ≤ sb) (hm : 0 ≤ x0 ∧ x0 ≤ a0 ∧ a0 ≤ fldN f c.ns ∧ fldN f c.ns ≤ b0 ∧ b0 ≤ y0 ∧ y0 ≤ 1050) {s0 s1 s2 s3 s4 s5 s6 s7 s8 s9 s10 s11 s12 s13 s14 s15 s17 s18 s22 s23 s24 s26 s27 s28 s29 s30 s31 s33 s35 s37 s38 s39 s40 s41 s42 s43 s44 s45 s46 s47 s48 s49 s50 s51 s52 s53 s54 s55 s56 s57 s58 s59 s60 s61 s62 s63 s64 s65 s66 s67 s68 s69 s70 s71 s72 s73 s74 s75 s76 s77 s78 s79 s80 s81 s82 s83 s84 s85 s86 s87 s88 s89 s90 s91 s92 s93 s94 s95 s96 s97 s98 s99 s100 s101 s102 s103 s104 s105 s106 s107 s108 s109 s110 s111 s112 s113 s114 s115 s116 s117 s118 s119 s120 s121 s122 s123 s124 s125 s126 s127 s128 s129 s130 s131 s132 s133 s134 s135 s136 s137 s138 s139 s140 s141 s142 s143 s144 s145 s146 s147 s148 s149 s150 s151 s152 s153 s154 s155 s156 s157 s158 s159 s160 s161 s162 s163 s164 s165 s166 s167 s168 s169 s170 s171 s172 s173 s174 s175 s176 s177 s178 s179 s180 s181 s182 s183 s184 s185 s186 s187 s188 s189 s190 s191 s192 s193 s194 s195 s196 s197 s198 s199 s200 s201 s202 s203 s204 s205 s206 s207 s208 s209 s210 s211 s212 s213 s214 s215 s216 s217 s218 s219 s220 s221 s222 s223 s224 s225 s226 s227 s228 s229 s230 s231 s232 s233 s234 s235 s236 s237 s238 s239 s240 s241 s242 s243 s244 s245 s246 s247 s248 s249 s250 s251 s252 s253 s254 s255 s256 s257 s258 s259 s260 s261 s262 s263 s264 s265 s266 s267 s268 s269 s270 s271 s272 s273 s274 s275 s276 s277 s278 s279 s280 s281 s282 s283 s284 s285 s286 s287 s288 s289 s290 s291 s292 s293 s294 s295 s296 s297 s298 s299 s300 s301 s302 s303 s304 s305 s306 s307 s308 s309 s310 s311 s312 s313 s314 s315 s316 s317 s318 s319 s320 s321 s322 s323 s324 s325 s326 s327 s328 s329 s330 s331 s332 s333 s334 s335 s336 s337 s338 s339 s340 s341 s342 s343 s344 s345 s346 s347 s348 s349 : Value} {Q0 : Exit → Act → World → Prop}
    (hInv : ∀ (t10 t36 t38 t39 t40 t207 t208 t209 t210 t211 t212 t213 t214 t215 t216 t217 t218 t219 t220 t221 t222 t223 t224 t225 t226 t227 t228 t229 t230 t231 t232 t233 t234 t235 t236 t237 t238 t239 t240 t241 t242 t243 t244 t245 t246 t247 t248 : Value) (A' : Nat → Option Addr) (k' : Nat → Nat) (s' v' : List (Int × Int)) (d' : List Int) (w' : World), ChS c X w' ∧ ChL X w' (n + 1) A' k' s' v' d' → Q0 .normal ⟨#[s0, s1, s2, s3, s4, s5, s6, s7, s8, s9, t10, s11, s12, s13, s14, s15, .slice c.Ad c.ns.length c.cd, s17, s18, .slice (A' 0) (n + 1) (k' 0), .slice (A' 1) (n + 1) (k' 1), .slice (A' 2) (n + 1) (k' 2), s22, s23, s24, .slice Af f.length cf, s26, s27, s28, s29, s30, s31, .pointer (some ⟨sa, 0, none⟩), s33, .pointer (some ⟨sb, 0, none⟩), s35, t36, s37, t38, t39, t40, s41, s42, s43, s44, s45, s46, s47, s48, s49, s50, s51, s52, s53, s54, s55, s56, s57, s58, s59, s60, s61, s62, s63, s64, s65, s66, s67, s68, s69, s70, s71, s72, s73, s74, s75, s76, s77, s78, s79, s80, s81, s82, s83, s84, s85, s86, s87, s88, s89, s90, s91, s92, s93, s94, s95, s96, s97, s98, s99, s100, s101, s102, s103, s104, s105, s106, s107, s108, s109, s110, s111, s112, s113, s114, s115, s116, s117, s118, s119, s120, s121, s122, s123, s124, s125, s126, s127, s128, s129, s130, s131, s132, s133, s134, s135, s136, s137, s138, s139, s140, s141, s142, s143, s144, s145, s146, s147, s148, s149, s150, s151, s152, s153, s154, s155, s156, s157, s158, s159, s160, s161, s162, s163, s164, s165, s166, s167, s168, s169, s170, s171, s172, s173, s174, s175, s176, s177, s178, s179, s180, s181, s182, s183, s184, s185, s186, s187, s188, s189, s190, s191, s192, s193, s194, s195, s196, s197, s198, s199, s200, s201, s202, s203, s204, s205, s206, t207, t208, t209, t210, t211, t212, t213, t214, t215, t216, t217, t218, t219, t220, t221, t222, t223, t224, t225, t226, t227, t228, t229, t230, t231, t232, t233, t234, t235, t236, t237, t238, t239, t240, t241, t242, t243, t244, t245, t246, t247, t248, s249, s250, s251, s252, s253, s254, s255, s256, s257, s258, s259, s260, s261, s262, s263, s264, s265, s266, s267, s268, s269, s270, s271, s272, s273, s274, s275, s276, s277, s278, s279, s280, s281, s282, s283, s284, s285, s286, s287, s288, s289, s290, s291, s292, s293, s294, s295, s296, s297, s298, s299, s300, s301, s302, s303, s304, s305, s306, s307, s308, s309, s310, s311, s312, s313, s314, s315, s316, s317, s318, s319, s320, s321, s322, s323, s324, s325, s326, s327, s328, s329, s330, s331, s332, s333, s334, s335, s336, s337, s338, s339, s340, s341, s342, s343, s344, s345, s346, s347, s348, s349], []⟩ w') :
    Code.wp Try.prog (restB 44 (loopBody Try.f12 1)) Q0 ⟨#[s0, s1, s2, s3, s4, s5, s6, s7, s8, s9, s10, s11, s12, s13, s14, s15, .slice c.Ad c.ns.length c.cd, s17, s18, .slice (A 0) n (k 0), .slice (A 1) n (k 1), .slice (A 2) n (k 2), s22, s23, s24, .slice Af f.length cf, s26, s27, s28, s29, s30, s31, .pointer (some ⟨sa, 0, none⟩), s33, .pointer (some ⟨sb, 0, none⟩), s35, .int .i64 0, s37, s38, s39, s40, s41, s42, s43, s44, s45, s46, s47, s48, s49, s50, s51, s52, s53, s54, s55, s56, s57, s58, s59, s60, s61, s62, s63, s64, s65, s66, s67, s68, s69, s70, s71, s72, s73, s74, s75, s76, s77, s78, s79, s80, s81, s82, s83, s84, s85, s86, s87, s88, s89, s90, s91, s92, s93, s94, s95, s96, s97, s98, s99, s100, s101, s102, s103, s104, s105, s106, s107, s108, s109, s110, s111, s112, s113, s114, s115, s116, s117, s118, s119, s120, s121, s122, s123, s124, s125, s126, s127, s128, s129, s130, s131, s132, s133, s134, s135, s136, s137, s138, s139, s140, s141, s142, s143, s144, s145, s146, s147, s148, s149, s150, s151, s152, s153, s154, s155, s156, s157, s158, s159, s160, s161, s162, s163, s164, s165, s166, s167, s168, s169, s170, s171, s172, s173, s174, s175, s176, s177, s178, s179, s180, s181, s182, s183, s184, s185, s186, s187, s188, s189, s190, s191, s192, s193, s194, s195, s196, s197, s198, s199, s200, s201, s202, s203, s204, s205, s206, s207, s208, s209, s210, s211, s212, s213, s214, s215, s216, s217, s218, s219, s220, s221, s222, s223, s224, s225, s226, s227, s228, s229, s230, s231, s232, s233, s234, s235, s236, s237, s238, s239, s240, s241, s242, s243, s244, s245, s246, s247, s248, s249, s250, s251, s252, s253, s254, s255, s256, s257, s258, s259, s260, s261, s262, s263, s264, s265, s266, s267, s268, s269, s270, s271, s272, s273, s274, s275, s276, s277, s278, s279, s280, s281, s282, s283, s284, s285, s286, s287, s288, s289, s290, s291, s292, s293, s294, s295, s296, s297, s298, s299, s300, s301, s302, s303, s304, s305, s306, s307, s308, s309, s310, s311, s312, s313, s314, s315, s316, s317, s318, s319, s320, s321, s322, s323, s324, s325, s326, s327, s328, s329, s330, s331, s332, s333, s334, s335, s336, s337, s338, s339, s340, s341, s342, s343, s344, s345, s346, s347, s348, s349], []⟩ w1 := by
  refine wp_mono (Q := Exit.then (fun a x => Q0 .normal a x) (fun _ _ _ => False)) ?_ (by intro e a x h; cases e <;> first | exact h | exact h.elim)
  conv => arg 2; whnf
  obtain ⟨iS, hS0, hS1, hS2, hS3⟩ := info_parts info_span
  obtain ⟨iI, hI0, hI1, hI2, hI3⟩ := info_parts info_int
  have S := S0.trans S1
  obtain ⟨q, l1, l2, l3, hT, hsn⟩ := L
  have qlt : ∀ y, y ∈ q 0 ++ q 1 ++ q 2 → y < W0.heap.size := fun y hy => by
    simp only [List.mem_append] at hy
    rcases hy with (hy | hy) | hy
    · exact (l1 0 (by decide)).lt y hy
    · exact (l1 1 (by decide)).lt y hy
    · exact (l1 2 (by decide)).lt y hy
  have qq : sa ∉ q 0 ++ q 1 ++ q 2 ∧ sb ∉ q 0 ++ q 1 ++ q 2 := ⟨fun hm => by have := qlt _ hm; omega, fun hm => by have := qlt _ hm; omega⟩
  replace l1 : ∀ j, j < 3 → OwnS w1 (e3 j) (sz3 j) (A j) n (k j) (xs3 ls lv ld j) (q j) := fun j hj => (l1 j hj).keepS S1.kp (fun y hy hm => by have := l3 j hj y hy; have := E.nm.lt; have := E.nr.lt; simp at hm; omega)
  clear qlt S1 S0
  have Ed := (E.at S).rd
  have HL := Lib.hid (And.intro l1 (And.intro l2 (And.intro l3 (And.intro hT hsn))))
  have HX0 := Lib.hid (And.intro ha (And.intro hb qq))
  have HE := Lib.hid (And.intro E (And.intro S (And.intro hf (And.intro hfo (And.intro hns (And.intro hm Ed))))))
  have HI := Lib.hid hInv
  clear l1 l2 l3 hT hsn qq ha hb hq E S hf hfo hns hm Ed hInv
  go_wp2_with fail
  go_loopw [36, 209] (fun m i wr => ∃ r : Nat, r ≤ c.ns.length ∧ i = .int .i64 r ∧ m = .int .i64 (fldN f (c.ns.take r)) ∧ Below w1.heap.size w1 wr) (fun _ i _ => c.ns.length - (intOf i).toNat)
  case atStart => exact ⟨0, Nat.zero_le _, rfl, rfl, Below.refl _ _⟩
  case round =>
    obtain ⟨r, hr, rfl, rfl, hbw⟩ := hrel
    obtain ⟨mm, hmm⟩ : ∃ mm, mm = fldN f (c.ns.take r) := ⟨_, rfl⟩
    rw [← hmm]
    have HB := Lib.hid (And.intro hbw hmm)
    clear hbw hmm
    by_cases hlt : r < c.ns.length
    · obtain ⟨z, hz⟩ : ∃ z, z = c.ns[r] := ⟨_, rfl⟩
      have hzr := HE.out.2.2.2.2.1 z (by rw [hz]; exact List.getElem_mem hlt)
      obtain ⟨zn, rfl⟩ := Int.eq_ofNat_of_zero_le hzr.1
      have hzl : zn < f.length := by omega
      obtain ⟨y, hy⟩ : ∃ y, y = f[zn] := ⟨_, rfl⟩
      obtain ⟨bn, on, eA, zbn, gn⟩ := HE.out.2.2.2.2.2.2.2 (by omega)
      obtain ⟨bf, of, rfl, zbf, gf⟩ := HE.out.2.2.1.2 (by omega)
      have t0 : wr.cell? ⟨bn, on + r, none⟩ = some (.int .i64 (zn : Int)) := by
        have := (HB.out.1.cell (p := ⟨bn, on + r, none⟩) zbn).trans (gn r _ (ints_get hlt))
        rwa [List.getD_eq_getElem?_getD, List.getElem?_eq_getElem hlt, Option.getD_some, ← hz] at this
      obtain ⟨i0, i1, i2, i3⟩ := ics_get hzl
      rw [← hy] at i0 i1 i2 i3
      have f0 := (HB.out.1.cell (p := ⟨bf, of + zn*4, none⟩) zbf).trans (gf _ _ i0)
      have f1 : wr.cell? ⟨bf, of + zn*4 + 1, none⟩ = _ := (HB.out.1.cell (p := ⟨bf, of + (zn*4 + 1), none⟩) zbf).trans (gf _ _ i1)
      have f2 : wr.cell? ⟨bf, of + zn*4 + 2, none⟩ = _ := (HB.out.1.cell (p := ⟨bf, of + (zn*4 + 2), none⟩) zbf).trans (gf _ _ i2)
      have f3 : wr.cell? ⟨bf, of + zn*4 + 3, none⟩ = _ := (HB.out.1.cell (p := ⟨bf, of + (zn*4 + 3), none⟩) zbf).trans (gf _ _ i3)
      have yok : iceOk y = true := HE.out.2.2.2.1 y (by rw [hy]; exact List.getElem_mem hzl)
      have kg := fun X => Grade_any y X
      have e0 : iceE y = 0 := by unfold iceE; rw [if_pos yok]
      rw [gradeN_ok yok, e0] at kg
      obtain ⟨gd, hgd⟩ : ∃ g, g = gradeS y := ⟨_, rfl⟩
      rw [← hgd] at kg
      have zz1 := World.block_lt_of_cell? _ _ t0
      have zz2 := World.block_lt_of_cell? _ _ f0
      have n1 : (0 : Int) ≤ (zn : Int) := by omega
      have n2 : (zn : Int) < (f.length : Int) := by omega
      have n3 : (0 : Int) ≤ (r : Int) := by omega
      have n4 : (r : Int) < (c.ns.length : Int) := by omega
      have HG := Lib.hid (And.intro kg (And.intro hgd (And.intro hy hz)))
      clear kg hgd hy hz i0 i1 i2 i3 gn gf zbn zbf hzr yok e0
      rw [eA]
      go_wp2_with (go_at_call 60; refine (HG.out.1 _).mono ?_; rintro e w2 ⟨rfl, b2⟩)
      have HB2 := Lib.hid (HB.out.1.trans (b2.mono HB.out.1.size))
      clear b2 t0 f0 f1 f2 f3
      go_roundw
      case measure => simp [intOf]; omega
      case rel =>
        refine ⟨r + 1, by omega, by go_num, ?_, HB2.out⟩
        have e0 : c.ns.take (r + 1) = c.ns.take r ++ [(zn : Int)] := by rw [List.take_succ_eq_append_getElem hlt, HG.out.2.2.2]
        rw [e0, fldN_snoc, iceAt_get hzl, ← HG.out.2.2.1, ← HG.out.2.1, ← HB.out.2]
        congr 1
        split <;> omega
    · obtain rfl : r = c.ns.length := by omega
      have hm0 : mm = fldN f c.ns := by have := HB.out.2; rwa [List.take_length] at this
      obtain ⟨w2, rfl⟩ : ∃ w2, w2 = wr := ⟨_, rfl⟩
      have HM := Lib.hid (show 0 ≤ x0 ∧ x0 ≤ a0 ∧ a0 ≤ mm ∧ mm ≤ b0 ∧ b0 ≤ y0 ∧ y0 ≤ 1050 from by rw [hm0]; exact HE.out.2.2.2.2.2.1)
      have hsa := (HB.out.1.block _ (heap_lt HX0.out.1)).trans HX0.out.1
      have hsb := (HB.out.1.block _ (heap_lt HX0.out.2.1)).trans HX0.out.2.1
      have a_0 := (cell_of_heap hsa 0).trans rfl
      have a_1 := (cell_of_heap hsa 1).trans rfl
      have b_0 := (cell_of_heap hsb 0).trans rfl
      have b_1 := (cell_of_heap hsb 1).trans rfl
      have za := heap_lt hsa
      have zb := heap_lt hsb
      have g1 : decide (mm < a0) = false := by have := HM.out; simp; omega
      have g2 : decide (b0 < mm) = false := by have := HM.out; simp; omega
      obtain ⟨m0, hm1⟩ : ∃ m0, m0 = mm := ⟨_, rfl⟩
      rw [← hm1] at HM g1 g2 ⊢
      clear hm0 hm1
      go_upto_if 236 with fail
      go_wp2_with fail
      have HX := Lib.hid (And.intro a_0 (And.intro a_1 (And.intro b_0 (And.intro b_1 HX0.out.2.2))))
      have HL2 := Lib.hid (And.intro (show ∀ j, j < 3 → OwnS w2 (e3 j) (sz3 j) (A j) n (k j) (xs3 ls lv ld j) (q j) from fun j hj => (HL.out.1 j hj).keepS (Keep.of_below (S := []) HB.out.1) (by simp)) HL.out.2)
      clear a_0 a_1 b_0 b_1 hsa hsb g1 g2
      refine wp_region_steps (σ := S3) (by kernel_rfl) (by kernel_rfl) (fun sg jx vx _ => TlV w2 A k ls lv ld q n a0 b0 x0 y0 m0 sg jx vx) (fun sg ly wx => TlW w2 A k ls lv ld q n a0 b0 x0 y0 m0 sg ly wx) ⟨A, k, q, fun _ => 0⟩ ?_ ?_ ?_
      · exact G3.start HL2.out.1 HL2.out.2.1
      · simp only [AllFrom, Nat.zero_add, Nat.reduceAdd]
        refine ⟨?_, ?_, ?_, ?_, ?_, ?_, ?_, ?_, ?_, ?_, ?_, ?_, ?_, ?_, ?_, trivial⟩
        · refine step_pure fun sg ly a wr hl hd hW hF => ?_
          have ny19_3 := hF.notYet 0 3 hl (by kernel_rfl)
          have ny19 := hF.notYet 3 12 ny19_3 (by kernel_rfl)
          have et19 := hF.was 12 19 ny19 (by kernel_rfl)
          simp [Act.eval] at et19
          exact ⟨hW.other _ (by decide), _, by go_simp, rfl⟩
        · refine step_pure fun sg ly a wr hl hd hW hF => ?_
          have et32 := hF.old 32 (by kernel_rfl)
          simp [Act.eval] at et32
          have c0 := hW.kp.cell (HX.out.1) HX.out.2.2.2.2.1
          have c1 := hW.kp.cell (HX.out.2.1) HX.out.2.2.2.2.1
          exact ⟨hW.other _ (by decide), _, by go_simp, rfl⟩
        · refine step_run fun sg ly a wr hl hd hW hF => ?_
          simp [Region.binds] at hd
          have et238 := hF.new 1 238 (by simp [hd]) rfl
          simp [TlV, Act.eval] at et238
          have n3 := hF.notYet 2 3 hl (by kernel_rfl)
          refine ⟨_, wr.alloc (.cells #[.int .i64 a0, .int .i64 b0] 42), { sg with b := fun i => if i = 0 then wr.heap.size else sg.b i }, by go_simp, hW.build 0 (by decide) rfl, rfl, ?_⟩
          intro i u hi h
          have i2 : i ≠ 2 := by rintro rfl; rw [hl] at hi; cases hi
          unfold TlV at h ⊢
          split at h <;> first | exact h | exact absurd rfl i2
        · intro sg ly a wr hl hd hW hF
          simp [Region.binds] at hd
          have et237 := hF.new 0 237 (by simp [hd]) rfl
          simp [TlV, Act.eval] at et237
          have et239 := hF.new 2 239 (by simp [hd]) rfl
          simp [TlV, Act.eval] at et239
          have y2 : ly 2 = true := by simp [hd]
          have n12 := hF.notYet 3 12 hl (by kernel_rfl)
          have hb := hW.blk 0 (by decide) y2
          have ho : OwnS wr 42 2 (A 0) n (k 0) (spcs ls) (sg.f 0) := hW.own0 0 (by decide) hl
          refine wp_append_S (.tmp 237) (.tmp 239) 61 rfl iS _ 16 Try.underlying61 hS0 hS1 hS2 (by decide) hS3 rfl (by simpa [Act.eval] using et237) ⟨sg.b 0, 0, none⟩ (by simpa [Act.eval] using et239) [.int .i64 a0, .int .i64 b0] ho rfl (fun j v hj => by rw [show (⟨sg.b 0, 0, none⟩ : Addr).add j = ⟨sg.b 0, j, none⟩ from by simp [Addr.add]; omega]; exact (cell_of_heap hb.1 j).trans (by simpa [chP, u3] using hj)) (by intro u hu; simp at hu; rcases hu with rfl | rfl <;> rfl) (by omega) (by omega) ?_
          intro g c' w' o1 o2 o3 o4
          refine ⟨{ sg with A := fun i => if i = 0 then some ⟨g, 0, none⟩ else sg.A i, c := fun i => if i = 0 then c' else sg.c i, f := fun i => if i = 0 then [g] else sg.f i }, _, rfl, hW.app 0 (by decide) hl o1 o2 o4, fun _ => rfl, ?_⟩
          intro i u hi h
          have i2 : i ≠ 3 := by rintro rfl; rw [hl] at hi; cases hi
          have i3 : i ≠ 12 := by rintro rfl; rw [n12] at hi; cases hi
          unfold TlV at h ⊢
          split at h <;> first | exact h | exact absurd rfl i2 | exact absurd rfl i3
        · refine step_pure fun sg ly a wr hl hd hW hF => ?_
          have ny20_7 := hF.notYet 4 7 hl (by kernel_rfl)
          have ny20 := hF.notYet 7 13 ny20_7 (by kernel_rfl)
          have et20 := hF.was 13 20 ny20 (by kernel_rfl)
          simp [Act.eval] at et20
          exact ⟨hW.other _ (by decide), _, by go_simp, rfl⟩
        · refine step_pure fun sg ly a wr hl hd hW hF => ?_
          have et34 := hF.old 34 (by kernel_rfl)
          simp [Act.eval] at et34
          have c0 := hW.kp.cell (HX.out.2.2.1) HX.out.2.2.2.2.2
          have c1 := hW.kp.cell (HX.out.2.2.2.1) HX.out.2.2.2.2.2
          exact ⟨hW.other _ (by decide), _, by go_simp, rfl⟩
        · refine step_run fun sg ly a wr hl hd hW hF => ?_
          simp [Region.binds] at hd
          have et242 := hF.new 5 242 (by simp [hd]) rfl
          simp [TlV, Act.eval] at et242
          have n3 := hF.notYet 6 7 hl (by kernel_rfl)
          refine ⟨_, wr.alloc (.cells #[.int .i64 x0, .int .i64 y0] 42), { sg with b := fun i => if i = 1 then wr.heap.size else sg.b i }, by go_simp, hW.build 1 (by decide) rfl, rfl, ?_⟩
          intro i u hi h
          have i2 : i ≠ 6 := by rintro rfl; rw [hl] at hi; cases hi
          unfold TlV at h ⊢
          split at h <;> first | exact h | exact absurd rfl i2
        · intro sg ly a wr hl hd hW hF
          simp [Region.binds] at hd
          have et241 := hF.new 4 241 (by simp [hd]) rfl
          simp [TlV, Act.eval] at et241
          have et243 := hF.new 6 243 (by simp [hd]) rfl
          simp [TlV, Act.eval] at et243
          have y2 : ly 6 = true := by simp [hd]
          have n12 := hF.notYet 7 13 hl (by kernel_rfl)
          have hb := hW.blk 1 (by decide) y2
          have ho : OwnS wr 42 2 (A 1) n (k 1) (spcs lv) (sg.f 1) := hW.own0 1 (by decide) hl
          refine wp_append_S (.tmp 241) (.tmp 243) 61 rfl iS _ 16 Try.underlying61 hS0 hS1 hS2 (by decide) hS3 rfl (by simpa [Act.eval] using et241) ⟨sg.b 1, 0, none⟩ (by simpa [Act.eval] using et243) [.int .i64 x0, .int .i64 y0] ho rfl (fun j v hj => by rw [show (⟨sg.b 1, 0, none⟩ : Addr).add j = ⟨sg.b 1, j, none⟩ from by simp [Addr.add]; omega]; exact (cell_of_heap hb.1 j).trans (by simpa [chP, u3] using hj)) (by intro u hu; simp at hu; rcases hu with rfl | rfl <;> rfl) (by omega) (by omega) ?_
          intro g c' w' o1 o2 o3 o4
          refine ⟨{ sg with A := fun i => if i = 1 then some ⟨g, 0, none⟩ else sg.A i, c := fun i => if i = 1 then c' else sg.c i, f := fun i => if i = 1 then [g] else sg.f i }, _, rfl, hW.app 1 (by decide) hl o1 o2 o4, fun _ => rfl, ?_⟩
          intro i u hi h
          have i2 : i ≠ 7 := by rintro rfl; rw [hl] at hi; cases hi
          have i3 : i ≠ 13 := by rintro rfl; rw [n12] at hi; cases hi
          unfold TlV at h ⊢
          split at h <;> first | exact h | exact absurd rfl i2 | exact absurd rfl i3
        · refine step_pure fun sg ly a wr hl hd hW hF => ?_
          have ny21_11 := hF.notYet 8 11 hl (by kernel_rfl)
          have ny21 := hF.notYet 11 14 ny21_11 (by kernel_rfl)
          have et21 := hF.was 14 21 ny21 (by kernel_rfl)
          simp [Act.eval] at et21
          exact ⟨hW.other _ (by decide), _, by go_simp, rfl⟩
        · refine step_pure fun sg ly a wr hl hd hW hF => ?_
          have et36 := hF.old 36 (by kernel_rfl)
          simp [Act.eval] at et36
          exact ⟨hW.other _ (by decide), _, by go_simp, rfl⟩
        · refine step_run fun sg ly a wr hl hd hW hF => ?_
          simp [Region.binds] at hd
          have et246 := hF.new 9 246 (by simp [hd]) rfl
          simp [TlV, Act.eval] at et246
          have n3 := hF.notYet 10 11 hl (by kernel_rfl)
          refine ⟨_, wr.alloc (.cells #[.int .i64 m0] 3), { sg with b := fun i => if i = 2 then wr.heap.size else sg.b i }, by go_simp, hW.build 2 (by decide) rfl, rfl, ?_⟩
          intro i u hi h
          have i2 : i ≠ 10 := by rintro rfl; rw [hl] at hi; cases hi
          unfold TlV at h ⊢
          split at h <;> first | exact h | exact absurd rfl i2
        · intro sg ly a wr hl hd hW hF
          simp [Region.binds] at hd
          have et245 := hF.new 8 245 (by simp [hd]) rfl
          simp [TlV, Act.eval] at et245
          have et247 := hF.new 10 247 (by simp [hd]) rfl
          simp [TlV, Act.eval] at et247
          have y2 : ly 10 = true := by simp [hd]
          have n12 := hF.notYet 11 14 hl (by kernel_rfl)
          have hb := hW.blk 2 (by decide) y2
          have ho : OwnS wr 3 1 (A 2) n (k 2) (ints ld) (sg.f 2) := hW.own0 2 (by decide) hl
          refine wp_append_S (.tmp 245) (.tmp 247) 27 rfl iI _ 8 Try.underlying27 hI0 hI1 hI2 (by decide) hI3 rfl (by simpa [Act.eval] using et245) ⟨sg.b 2, 0, none⟩ (by simpa [Act.eval] using et247) [.int .i64 m0] ho rfl (fun j v hj => by rw [show (⟨sg.b 2, 0, none⟩ : Addr).add j = ⟨sg.b 2, j, none⟩ from by simp [Addr.add]; omega]; exact (cell_of_heap hb.1 j).trans (by simpa [chP, u3] using hj)) (by intro u hu; simp at hu; rw [hu]; rfl) (by omega) (by omega) ?_
          intro g c' w' o1 o2 o3 o4
          refine ⟨{ sg with A := fun i => if i = 2 then some ⟨g, 0, none⟩ else sg.A i, c := fun i => if i = 2 then c' else sg.c i, f := fun i => if i = 2 then [g] else sg.f i }, _, rfl, hW.app 2 (by decide) hl o1 o2 o4, fun _ => rfl, ?_⟩
          intro i u hi h
          have i2 : i ≠ 11 := by rintro rfl; rw [hl] at hi; cases hi
          have i3 : i ≠ 14 := by rintro rfl; rw [n12] at hi; cases hi
          unfold TlV at h ⊢
          split at h <;> first | exact h | exact absurd rfl i2 | exact absurd rfl i3
        · refine step_pure fun sg ly a wr hl hd hW hF => ?_
          simp [Region.binds] at hd
          have et240 := hF.new 3 240 (by simp [hd]) rfl
          simp [TlV, Act.eval] at et240
          exact ⟨hW.other _ (by decide), _, by go_simp, rfl⟩
        · refine step_pure fun sg ly a wr hl hd hW hF => ?_
          simp [Region.binds] at hd
          have et244 := hF.new 7 244 (by simp [hd]) rfl
          simp [TlV, Act.eval] at et244
          exact ⟨hW.other _ (by decide), _, by go_simp, rfl⟩
        · refine step_pure fun sg ly a wr hl hd hW hF => ?_
          simp [Region.binds] at hd
          have et248 := hF.new 11 248 (by simp [hd]) rfl
          simp [TlV, Act.eval] at et248
          exact ⟨hW.other _ (by decide), _, by go_simp, rfl⟩
      intro sg a5 w5 hWW hF
      have e19 := hF.new 12 19 (by decide) rfl
      have e20 := hF.new 13 20 (by decide) rfl
      have e21 := hF.new 14 21 (by decide) rfl
      obtain ⟨f5, hf5, rfl⟩ := hF.lit
      rw [← hf5] at e19 e20 e21
      simp only [TlV] at e19 e20 e21
      have HW := Lib.hid hWW
      clear hf5 hF hWW
      simp only [List.filterMap, List.foldl, List.setIfInBounds_toArray, List.set_cons_succ, List.set_cons_zero, e19, e20, e21]
      clear e19 e20 e21
      have hx2 : X.heap.size ≤ w2.heap.size := Nat.le_trans HE.out.2.1.kp.size HB.out.1.size
      have s2 : ChS c X w2 := HE.out.2.1.keep (S := []) (Keep.of_below HB.out.1) (by simp) HE.out.1
      have hfin := s2.keep HW.out.kp (fun x hx => by
        simp only [List.mem_append] at hx
        rcases hx with (hx | hx) | hx
        · exact HL.out.2.2.1 0 (by decide) x hx
        · exact HL.out.2.2.1 1 (by decide) x hx
        · exact HL.out.2.2.1 2 (by decide) x hx) HE.out.1
      have hl5 := ChL.done (X := X) HW.out HL.out.2.2.1 hx2 HL.out.2.2.2.1 HL.out.2.2.2.2 HM.out
      have HF := Lib.hid (And.intro hfin hl5)
      clear hfin hl5 s2 hx2
      go_wp2_with fail
      exact HI.out _ _ _ _ _ _ _ _ _ _ _ _ _ _ _ _ _ _ _ _ _ _ _ _ _ _ _ _ _ _ _ _ _ _ _ _ _ _ _ _ _ _ _ _ _ _ _ sg.A sg.c _ _ _ _ HF.out
end Go.Proofs.Ytfmhlnfcbbpfeaa
