/- A round of RestrictSmall's loop over the lengths' limits (printed by wip/tools/small5.py) -/
import Derived.Test.YtbgnkljjgfcngaaGreatRSp40
import Derived.Test.YtbgnkljjgfcngaaGreatRSp11
import Derived.Test.YtbgnkljjgfcngaaGreatRSp9
import Derived.Test.YtbgnkljjgfcngaaGreatRSp37
import Derived.Test.YtbgnkljjgfcngaaGreatRSp2
import Derived.Deep.DeepCutAuto
import Derived.IntWalk
import Derived.Test.YtbgnkljjgfcngaaGreatRSp39
import Derived.Test.YtbgnkljjgfcngaaGreatRSp14
set_option linter.unusedVariables false
set_option linter.unusedSimpArgs false
namespace Go.Proofs.YtbgnkljjgfcngaaGreat
open Go Go.RowKit Sp
set_option linter.unusedVariables false

structure Sm where
  b : Nat
  d : Nat
  m : Nat
set_option linter.unusedVariables false
def Sm6V (n : Nat) (fs : Int) (s : Sm) : Nat → Value → Prop
  | 0, v => v = .agg #[.slice (some ⟨s.b, 0, none⟩) 3 3, .int .i64 2, .int .i64 3, .int .i64 1, .int .i64 2]
  | 1, v => v = .int .i64 n
  | 2, v => v = .slice (some ⟨s.m, 0, none⟩) n n
  | 3, v => ∃ x, v = .tuple #[x, .int .i64 fs]
  | 4, v => ∃ x, v = .tuple #[x, .int .i64 fs]
  | 6, v => v = .int .i64 fs
  | 8, v => v = .int .i64 fs
  | _, _ => True
def Sm6W (Y : World) (n : Nat) (s : Sm) (l : Nat → Bool) (w : World) : Prop := Below Y.heap.size Y w ∧ (l 0 = true → ExAt s.b w) ∧ (l 2 = true → w.heap[s.m]? = some (.cells (spcs (List.replicate n (0, 0))).toArray 33 (0, 0)))
def Sm7V (n rl : Nat) (gs : Int) (s : Sm) : Nat → Value → Prop
  | 0, v => v = .agg #[.slice (some ⟨s.b, 0, none⟩) 3 3, .int .i64 2, .int .i64 3, .int .i64 1, .int .i64 2]
  | 1, v => v = .slice (some ⟨s.d, 0, none⟩) 9 9
  | 2, v => v = .int .i64 n
  | 3, v => v = .int .i64 ((n : Int) + 100)
  | 4, v => v = .slice (some ⟨s.m, 0, none⟩) (n + 100) (n + 100)
  | 5, v => ∃ A c, v = .tuple #[.slice A rl c, .int .i64 gs]
  | 6, v => ∃ A c, v = .tuple #[.slice A rl c, .int .i64 gs]
  | 7, v => ∃ A c, v = .slice A rl c
  | 8, v => v = .int .i64 gs
  | 9, v => ∃ A c, v = .slice A rl c
  | 10, v => v = .int .i64 gs
  | _, _ => True
def Sm7W (Y : World) (n : Nat) (s : Sm) (l : Nat → Bool) (w : World) : Prop := Below Y.heap.size Y w ∧ (l 0 = true → ExAt s.b w) ∧ (l 1 = true → w.heap[s.d]? = some (.cells #[.int .i64 120, .int .i64 130, .int .i64 210, .int .i64 220, .int .i64 90, .int .i64 50, .int .i64 40, .int .i64 30, .int .i64 20] 3 (0, 0))) ∧ (l 4 = true → w.heap[s.m]? = some (.cells (pscs (List.replicate (n + 100) ⟨⟨0, 0, false⟩, 0, 0⟩)).toArray 31 (0, 0)))
set_option maxRecDepth 100000 in
set_option maxHeartbeats 4000000 in
theorem small5 {w0 : World} {n : Nat} (h1 : 399 ≤ n) (h2 : n ≤ 401) {s0 s1 s2 s3 s4 s5 s6 s7 s8 s9 s10 s11 s12 s13 s14 s15 s16 s17 s18 s19 s20 s21 s23 s24 s25 s26 s27 s28 s29 s30 s31 s32 s33 s34 s35 s36 s37 s38 s39 s40 s41 s42 s43 s44 s45 s46 s47 s48 s49 s50 s51 s52 s53 s54 s55 s56 s57 s58 s59 s60 s61 s62 s63 s64 s65 s66 s67 s68 s69 s70 s71 s72 s73 s74 s75 s76 s77 s78 s79 s80 s81 s82 s83 s84 s85 s86 s87 s88 s89 s90 s91 s92 s93 s94 s95 s96 s97 s98 s99 s100 s101 s102 s103 s104 s105 s106 s107 s108 s109 s110 s111 s112 s113 s114 s115 s116 s117 s118 s119 s120 s121 s122 s123 s124 s125 s126 s127 s128 s129 s130 s131 s132 s133 s134 s135 s136 s137 s138 s139 s140 s141 s142 s143 s144 s145 s146 s147 s148 s149 s150 s151 s152 s153 s154 s155 s156 s157 s158 s159 s160 s161 s162 s163 s164 s165 s166 s167 s168 s169 s170 s171 s172 s173 s174 s175 s176 s177 s178 s179 s180 s181 s182 s183 s184 s185 s186 s187 s188 s189 s190 s191 s192 s193 s194 s195 s196 s197 s198 s199 s200 s201 s202 s203 s204 s205 s206 s207 s208 s209 s210 s211 s212 s213 s214 s215 s216 s217 s218 s219 s220 s221 s222 s223 s224 s225 s226 s227 s228 s229 s230 s231 s232 s233 s234 s235 s236 s237 s238 s239 s240 s241 s242 s243 s244 s245 s246 s247 s248 s249 s250 s251 s252 s253 s254 s255 s256 s257 s258 s259 s260 s261 s262 s263 s264 s265 s266 s267 s268 s269 s270 s271 s272 s273 s274 s275 s276 s277 s278 s279 s280 s281 s282 s283 s284 s285 s286 s287 s288 s289 s290 s291 s292 s293 s294 s295 s296 s297 s298 s299 s300 s301 s302 s303 s304 s305 s306 s307 s308 s309 s310 s311 s312 s313 s314 s315 s316 s317 s318 s319 s320 s321 s322 s323 s324 s325 s326 s327 s328 s329 s330 s331 s332 s333 s334 s335 s336 s337 s338 s339 s340 s341 s342 s343 s344 s345 s346 s347 s348 s349 s350 s351 s352 s353 s354 : Value} {Q0 : Exit → Act → World → Prop} {Inv : Act → World → Prop}
    (hInv : ∀ (t0 t23 t24 t25 t26 t27 t28 t29 t30 t31 t244 t245 t246 t247 t248 t249 t250 t251 t252 t253 t254 t255 t256 t257 t258 t259 t260 t261 t262 t263 t264 t265 t266 t267 t268 t269 t270 t271 t272 t273 t274 t275 t276 t277 t278 t279 t280 t281 t282 t283 t284 t285 t286 t287 t288 t289 t290 t291 t292 t293 t294 t295 t296 t297 t298 t299 t300 t301 t302 t303 t304 t305 t306 t307 t308 t309 t310 t311 t312 t313 t314 t315 t316 t317 t318 t319 t320 t321 t322 t323 t324 t325 t326 t327 t328 t329 t330 t331 t332 t333 t334 t335 t336 t337 t338 t339 t340 t341 t342 : Value)  (w' : World), Below w0.heap.size w0 w' → Inv ⟨#[t0, s1, s2, s3, s4, s5, s6, s7, s8, s9, s10, s11, s12, s13, s14, s15, s16, s17, s18, s19, s20, s21, .int .i64 ((n : Int) + 1), t23, t24, t25, t26, t27, t28, t29, t30, t31, s32, s33, s34, s35, s36, s37, s38, s39, s40, s41, s42, s43, s44, s45, s46, s47, s48, s49, s50, s51, s52, s53, s54, s55, s56, s57, s58, s59, s60, s61, s62, s63, s64, s65, s66, s67, s68, s69, s70, s71, s72, s73, s74, s75, s76, s77, s78, s79, s80, s81, s82, s83, s84, s85, s86, s87, s88, s89, s90, s91, s92, s93, s94, s95, s96, s97, s98, s99, s100, s101, s102, s103, s104, s105, s106, s107, s108, s109, s110, s111, s112, s113, s114, s115, s116, s117, s118, s119, s120, s121, s122, s123, s124, s125, s126, s127, s128, s129, s130, s131, s132, s133, s134, s135, s136, s137, s138, s139, s140, s141, s142, s143, s144, s145, s146, s147, s148, s149, s150, s151, s152, s153, s154, s155, s156, s157, s158, s159, s160, s161, s162, s163, s164, s165, s166, s167, s168, s169, s170, s171, s172, s173, s174, s175, s176, s177, s178, s179, s180, s181, s182, s183, s184, s185, s186, s187, s188, s189, s190, s191, s192, s193, s194, s195, s196, s197, s198, s199, s200, s201, s202, s203, s204, s205, s206, s207, s208, s209, s210, s211, s212, s213, s214, s215, s216, s217, s218, s219, s220, s221, s222, s223, s224, s225, s226, s227, s228, s229, s230, s231, s232, s233, s234, s235, s236, s237, s238, s239, s240, s241, s242, s243, t244, t245, t246, t247, t248, t249, t250, t251, t252, t253, t254, t255, t256, t257, t258, t259, t260, t261, t262, t263, t264, t265, t266, t267, t268, t269, t270, t271, t272, t273, t274, t275, t276, t277, t278, t279, t280, t281, t282, t283, t284, t285, t286, t287, t288, t289, t290, t291, t292, t293, t294, t295, t296, t297, t298, t299, t300, t301, t302, t303, t304, t305, t306, t307, t308, t309, t310, t311, t312, t313, t314, t315, t316, t317, t318, t319, t320, t321, t322, t323, t324, t325, t326, t327, t328, t329, t330, t331, t332, t333, t334, t335, t336, t337, t338, t339, t340, t341, t342, s343, s344, s345, s346, s347, s348, s349, s350, s351, s352, s353, s354], []⟩ w') :
    Code.wp Tryz.prog (loopBody Tryz.f3 4) (Exit.then Inv Q0) ⟨#[s0, s1, s2, s3, s4, s5, s6, s7, s8, s9, s10, s11, s12, s13, s14, s15, s16, s17, s18, s19, s20, s21, .int .i64 n, s23, s24, s25, s26, s27, s28, s29, s30, s31, s32, s33, s34, s35, s36, s37, s38, s39, s40, s41, s42, s43, s44, s45, s46, s47, s48, s49, s50, s51, s52, s53, s54, s55, s56, s57, s58, s59, s60, s61, s62, s63, s64, s65, s66, s67, s68, s69, s70, s71, s72, s73, s74, s75, s76, s77, s78, s79, s80, s81, s82, s83, s84, s85, s86, s87, s88, s89, s90, s91, s92, s93, s94, s95, s96, s97, s98, s99, s100, s101, s102, s103, s104, s105, s106, s107, s108, s109, s110, s111, s112, s113, s114, s115, s116, s117, s118, s119, s120, s121, s122, s123, s124, s125, s126, s127, s128, s129, s130, s131, s132, s133, s134, s135, s136, s137, s138, s139, s140, s141, s142, s143, s144, s145, s146, s147, s148, s149, s150, s151, s152, s153, s154, s155, s156, s157, s158, s159, s160, s161, s162, s163, s164, s165, s166, s167, s168, s169, s170, s171, s172, s173, s174, s175, s176, s177, s178, s179, s180, s181, s182, s183, s184, s185, s186, s187, s188, s189, s190, s191, s192, s193, s194, s195, s196, s197, s198, s199, s200, s201, s202, s203, s204, s205, s206, s207, s208, s209, s210, s211, s212, s213, s214, s215, s216, s217, s218, s219, s220, s221, s222, s223, s224, s225, s226, s227, s228, s229, s230, s231, s232, s233, s234, s235, s236, s237, s238, s239, s240, s241, s242, s243, s244, s245, s246, s247, s248, s249, s250, s251, s252, s253, s254, s255, s256, s257, s258, s259, s260, s261, s262, s263, s264, s265, s266, s267, s268, s269, s270, s271, s272, s273, s274, s275, s276, s277, s278, s279, s280, s281, s282, s283, s284, s285, s286, s287, s288, s289, s290, s291, s292, s293, s294, s295, s296, s297, s298, s299, s300, s301, s302, s303, s304, s305, s306, s307, s308, s309, s310, s311, s312, s313, s314, s315, s316, s317, s318, s319, s320, s321, s322, s323, s324, s325, s326, s327, s328, s329, s330, s331, s332, s333, s334, s335, s336, s337, s338, s339, s340, s341, s342, s343, s344, s345, s346, s347, s348, s349, s350, s351, s352, s353, s354], []⟩ w0 := by
  conv => arg 2; whnf
  have HI := Lib.hid hInv
  have hlt' : (n : Int) < 402 := by omega
  have HN := Lib.hid h2
  have HNN := Lib.hid h1
  clear hInv
  have hrp := RpInt_any (some ⟨w0.heap.size, 0, none⟩) 1 [.int .i64 300] rfl (by simp [Value.oneCell']) n (by omega) (by omega) _ (rd_lit w0 1 1 [.int .i64 300] 3 rfl)
  have HRP := Lib.hid hrp
  clear hrp
  go_wp2_with fail
  refine HRP.out.mono ?_
  rintro e w1 ⟨gb, rfl, ⟨cur, hg, hr⟩, gg, b1⟩
  have bw1 : Below w0.heap.size w0 w1 := ((Below.refl _ _).alloc (Nat.le_refl _) _).trans (b1.mono (by simp))
  have gb1 : w0.heap.size ≤ gb := by simp at gg; omega
  have H1 := Lib.hid (And.intro hg (And.intro hr (And.intro bw1 gb1)))
  clear hg hr gg b1 bw1 gb1 HRP
  go_wp2_with fail
  refine (Example_new w1).mono ?_
  rintro e w2 ⟨sb, rfl, hs, gs, b2⟩
  have zb := H1.out.2.2.1.size
  have zg := heap_lt H1.out.1
  have z2 := b2.size
  have hst : AppSt w0 gb (.cells cur 3 (0, 0)) w2.heap.size (some ⟨sb, 0, none⟩) exP.steps 3 [sb] (w2.alloc (.cells #[.slice (some ⟨sb, 0, none⟩) 3 3, .int .i64 2, .int .i64 3, .int .i64 1, .int .i64 2] 25)) := by
    have za := heap_lt hs
    refine ⟨heap_alloc_new _ _, own_heap (heap_alloc' hs _) rfl (by decide), heap_alloc' ((b2.block _ zg).trans H1.out.1) _, (H1.out.2.2.1.trans (b2.mono zb)).alloc (by omega) _, by omega, by omega, fun g hm => ?_⟩
    rw [List.mem_singleton.1 hm]
    omega
  have HST0 := Lib.hid hst
  clear hs gs b2 zb zg z2 hst
  go_upto_region 41 with fail
  obtain ⟨V, hV⟩ : ∃ V, V = w2.alloc (.cells #[.slice (some ⟨sb, 0, none⟩) 3 3, .int .i64 2, .int .i64 3, .int .i64 1, .int .i64 2] 25) := ⟨_, rfl⟩
  obtain ⟨pb, hpb⟩ : ∃ b, b = w2.heap.size := ⟨_, rfl⟩
  rw [← hV, ← hpb] at HST0 ⊢
  clear hV hpb
  go_wp2_with fail
  go_loopw [25] (fun i wr => ∃ (k : Nat) (L : List Stp) (As : Option Addr) (cs : Nat) (q : List Nat), 3 ≤ k ∧ k + 391 ≤ n ∧ i = .int .i64 k ∧ L.length = k ∧ AppSt w0 gb (.cells cur 3 (0, 0)) pb As L cs q wr) (fun i _ => 20 - (intOf i).toNat)
  case atStart => exact ⟨3, exP.steps, _, _, _, by omega, by omega, rfl, rfl, HST0.out⟩
  case round =>
    obtain ⟨k, L, As, cs, q, hk3, hkn, rfl, hL, hst⟩ := hrel
    by_cases hlt : k + 391 < n
    · refine small4 h2 hlt hL hst ?_
      intros
      rename_i As' cs' q' w' hr
      refine ⟨?_, by simp [intOf]; omega⟩
      repeat apply Exists.intro
      refine ⟨?_, rfl⟩
      exact ⟨k + 1, _, _, _, _, by omega, by omega, by go_num, by simp [hL], hr⟩
    · have hkn' : ¬ ((k : Int) < (n : Int) - 391) := by omega
      have ew1 : IntKind.i64.wrap ((n : Int) - 391) = (n : Int) - 391 := IntWalk.i64_in _ (by omega)
      have p0 : wr.cell? ⟨pb, 0, none⟩ = some (.slice As L.length cs) := (cell_of_heap hst.blk 0).trans rfl
      have p1 : wr.cell? ⟨pb, 1, none⟩ = some (.int .i64 2) := (cell_of_heap hst.blk 1).trans rfl
      have p2 : wr.cell? ⟨pb, 2, none⟩ = some (.int .i64 3) := (cell_of_heap hst.blk 2).trans rfl
      have p3 : wr.cell? ⟨pb, 3, none⟩ = some (.int .i64 1) := (cell_of_heap hst.blk 3).trans rfl
      have p4 : wr.cell? ⟨pb, 4, none⟩ = some (.int .i64 2) := (cell_of_heap hst.blk 4).trans rfl
      have zp := heap_lt hst.blk
      have kf := force_days As cs ⟨L, 2, 3, 1, 2⟩ (some ⟨gb, 0, none⟩) n n wr h2 ⟨hst.own.ge, hst.own.cap, hst.own.rd⟩ (rep_days hst.day H1.out.2.1)
      obtain ⟨ck, hck⟩ : ∃ x, x = checkS ⟨L, 2, 3, 1, 2⟩ := ⟨_, rfl⟩
      rw [← hck] at kf
      have hL20 : L.length ≤ 20 := by omega
      have HK := Lib.hid (And.intro hck hL20)
      have KF := Lib.hid kf
      have HST := Lib.hid hst
      clear kf hck hst hL hL20 hk3 hkn hlt
      go_wp2_with fail
      refine KF.out.mono ?_
      rintro e Y ⟨Af, fl, cf, fe, rfl, hfc, b3⟩
      have HFC := Lib.hid hfc
      have HSY := Lib.hid (HST.out.below b3)
      clear hfc b3 KF p0 p1 p2 p3 p4 zp hkn' ew1
      obtain ⟨fs, hfs⟩ : ∃ x : Int, (if n = 401 then 2 else 0) = x := ⟨_, rfl⟩
      obtain ⟨gs, hgs⟩ : ∃ x : Int, (if n = 401 then 2 else 0) = x := ⟨_, rfl⟩
      obtain ⟨rl, hrl⟩ : ∃ x : Nat, (if n = 401 then 0 else n + 100) = x := ⟨_, rfl⟩
      have HFS := Lib.hid hfs
      have HGS := Lib.hid (And.intro hrl hgs)
      have MK := Lib.hid (And.intro (mk_spans n (by omega)) (mk_psgs n (by omega)))
      clear hfs hgs hrl
      go_upto_region 46 with fail
      refine wp_region_steps (σ := Sm) (by kernel_rfl) (by kernel_rfl) (fun sg jx vx _ => Sm6V n fs sg jx vx) (fun sg ly wx => Sm6W Y n sg ly wx) ⟨0, 0, 0⟩ ?_ ?_ ?_
      · exact ⟨(Below.refl _ _).drew, (fun h => by cases h), fun h => by cases h⟩
      · simp only [AllFrom, Nat.zero_add, Nat.reduceAdd]
        refine ⟨?_, ?_, ?_, ?_, ?_, ?_, ?_, ?_, ?_, trivial⟩
        · refine step_call fun sg ly a wx hl hd hW hF => ?_
          refine ⟨4, #[], by go_simp, (Example_new wx).mono ?_⟩
          rintro e w2 ⟨b, rfl, hs, gs, b1⟩
          refine ⟨_, { sg with b := b }, rfl, ⟨hW.1.trans (b1.mono hW.1.size), fun _ => hs, fun h => (b1.block _ (heap_lt (hW.2.2 (by simpa [upd] using h)))).trans (hW.2.2 (by simpa [upd] using h))⟩, rfl, ?_⟩
          intro i u hi h
          have i0 : i ≠ 0 := by rintro rfl; rw [hl] at hi; cases hi
          unfold Sm6V at h ⊢
          split at h <;> first | exact h | exact absurd rfl i0
        · refine step_pure fun sg ly a wr hl hd hW hF => ?_
          have et22 := hF.old 22 (by kernel_rfl)
          simp [Act.eval] at et22
          exact ⟨by simpa [Sm6W, upd] using hW, .int .i64 n, by go_simp, rfl⟩
        · refine step_run fun sg ly a wx hl hd hW hF => ?_
          simp [Region.binds] at hd
          have et281 := hF.new 1 281 (by simp [hd]) rfl
          simp [Sm6V, Act.eval] at et281
          have hm := MK.out.1 wx
          refine ⟨.slice (some ⟨wx.heap.size, 0, none⟩) n n, wx.alloc (.cells (spcs (List.replicate n (0, 0))).toArray 33), { sg with m := wx.heap.size }, by go_simp, ⟨hW.1.alloc hW.1.size _, fun h => (hW.2.1 (by simpa [upd] using h)).below ((Below.refl _ _).alloc (Nat.le_refl _) _), fun _ => heap_alloc_new _ _⟩, rfl, ?_⟩
          intro i u hi h
          have i0 : i ≠ 2 := by rintro rfl; rw [hl] at hi; cases hi
          unfold Sm6V at h ⊢
          split at h <;> first | exact h | exact absurd rfl i0
        · refine step_call fun sg ly a wx hl hd hW hF => ?_
          simp [Region.binds] at hd
          have et280 := hF.new 0 280 (by simp [hd]) rfl
          simp [Sm6V, Act.eval] at et280
          have et282 := hF.new 2 282 (by simp [hd]) rfl
          simp [Sm6V, Act.eval] at et282
          have y0 : ly 0 = true := by simp [hd]
          have y2 : ly 2 = true := by simp [hd]
          refine ⟨12, #[.agg #[.slice (some ⟨sg.b, 0, none⟩) 3 3, .int .i64 2, .int .i64 3, .int .i64 1, .int .i64 2], .slice (some ⟨sg.m, 0, none⟩) n n], by go_simp, ?_⟩
          have hc := bounds_zero (hW.2.1 y0) HN.out (hW.2.2 y2)
          rw [HFS.out] at hc
          refine hc.mono ?_
          rintro e w2 ⟨⟨x, rfl⟩, b1⟩
          exact ⟨_, sg, rfl, ⟨hW.1.trans (b1.mono hW.1.size), fun _ => (hW.2.1 y0).below b1, fun _ => (b1.block _ (heap_lt (hW.2.2 y2))).trans (hW.2.2 y2)⟩, ⟨x, rfl⟩, fun _ _ _ h => h⟩
        · refine step_pure fun sg ly a wx hl hd hW hF => ?_
          simp [Region.binds] at hd
          have et283 := hF.new 3 283 (by simp [hd]) rfl
          simp [Sm6V, Act.eval] at et283
          obtain ⟨x, et283⟩ := et283
          exact ⟨by simpa [Sm6W, upd] using hW, .tuple #[x, .int .i64 fs], by go_simp, ⟨x, rfl⟩⟩
        · refine step_pure fun sg ly a wx hl hd hW hF => ?_
          simp [Region.binds] at hd
          have et279 := hF.new 4 279 (by simp [hd]) rfl
          simp [Sm6V, Act.eval] at et279
          obtain ⟨x, et279⟩ := et279
          exact ⟨by simpa [Sm6W, upd] using hW, x, by go_simp, trivial⟩
        · refine step_pure fun sg ly a wx hl hd hW hF => ?_
          simp [Region.binds] at hd
          have et279 := hF.new 4 279 (by simp [hd]) rfl
          simp [Sm6V, Act.eval] at et279
          obtain ⟨x, et279⟩ := et279
          exact ⟨by simpa [Sm6W, upd] using hW, .int .i64 fs, by go_simp, rfl⟩
        · refine step_pure fun sg ly a wx hl hd hW hF => ?_
          exact ⟨by simpa [Sm6W, upd] using hW, _, by go_simp; rfl, trivial⟩
        · refine step_pure fun sg ly a wr hl hd hW hF => ?_
          simp [Region.binds] at hd
          have et285 := hF.new 6 285 (by simp [hd]) rfl
          simp [Sm6V, Act.eval] at et285
          exact ⟨by simpa [Sm6W, upd] using hW, .int .i64 fs, by go_simp, rfl⟩
      intro sg a w6 hW hF
      have e29 := hF.new 8 29 (by decide) rfl
      obtain ⟨fr, hf, rfl⟩ := hF.lit
      rw [← hf] at e29
      simp only [Sm6V] at e29
      have HS6 := Lib.hid (HSY.out.below hW.1)
      clear hf hF hW
      simp only [List.filterMap, List.foldl, List.setIfInBounds_toArray, List.set_cons_succ, List.set_cons_zero, e29]
      clear e29
      go_upto_region 47 with fail
      refine wp_region_steps (σ := Sm) (by kernel_rfl) (by kernel_rfl) (fun sg jx vx _ => Sm7V n rl gs sg jx vx) (fun sg ly wx => Sm7W w6 n sg ly wx) ⟨0, 0, 0⟩ ?_ ?_ ?_
      · exact ⟨(Below.refl _ _).drew, (fun h => by cases h), (fun h => by cases h), fun h => by cases h⟩
      · simp only [AllFrom, Nat.zero_add, Nat.reduceAdd]
        refine ⟨?_, ?_, ?_, ?_, ?_, ?_, ?_, ?_, ?_, ?_, ?_, trivial⟩
        · refine step_call fun sg ly a wx hl hd hW hF => ?_
          refine ⟨4, #[], by go_simp, (Example_new wx).mono ?_⟩
          rintro e w2 ⟨b, rfl, hs, gs, b1⟩
          refine ⟨_, { sg with b := b }, rfl, ⟨hW.1.trans (b1.mono hW.1.size), fun _ => hs, fun h => (b1.block _ (heap_lt (hW.2.2.1 (by simpa [upd] using h)))).trans (hW.2.2.1 (by simpa [upd] using h)), fun h => (b1.block _ (heap_lt (hW.2.2.2 (by simpa [upd] using h)))).trans (hW.2.2.2 (by simpa [upd] using h))⟩, rfl, ?_⟩
          intro i u hi h
          have i0 : i ≠ 0 := by rintro rfl; rw [hl] at hi; cases hi
          unfold Sm7V at h ⊢
          split at h <;> first | exact h | exact absurd rfl i0
        · refine step_call fun sg ly a wx hl hd hW hF => ?_
          refine ⟨5, #[], by go_simp, (winter_new wx).mono ?_⟩
          rintro e w2 ⟨d, rfl, hs, gs, b1⟩
          refine ⟨_, { sg with d := d }, rfl, ⟨hW.1.trans (b1.mono hW.1.size), fun h => (hW.2.1 (by simpa [upd] using h)).below b1, fun _ => hs, fun h => (b1.block _ (heap_lt (hW.2.2.2 (by simpa [upd] using h)))).trans (hW.2.2.2 (by simpa [upd] using h))⟩, rfl, ?_⟩
          intro i u hi h
          have i0 : i ≠ 1 := by rintro rfl; rw [hl] at hi; cases hi
          unfold Sm7V at h ⊢
          split at h <;> first | exact h | exact absurd rfl i0
        · refine step_pure fun sg ly a wr hl hd hW hF => ?_
          have et22 := hF.old 22 (by kernel_rfl)
          simp [Act.eval] at et22
          exact ⟨by simpa [Sm7W, upd] using hW, .int .i64 n, by go_simp, rfl⟩
        · refine step_pure fun sg ly a wr hl hd hW hF => ?_
          simp [Region.binds] at hd
          have et289 := hF.new 2 289 (by simp [hd]) rfl
          simp [Sm7V, Act.eval] at et289
          have ew := IntWalk.i64_in ((n : Int) + 100) (by omega)
          exact ⟨by simpa [Sm7W, upd] using hW, .int .i64 ((n : Int) + 100), by go_simp, rfl⟩
        · refine step_run fun sg ly a wx hl hd hW hF => ?_
          simp [Region.binds] at hd
          have et290 := hF.new 3 290 (by simp [hd]) rfl
          simp [Sm7V, Act.eval] at et290
          have hm := MK.out.2 wx
          have b1 : Below wx.heap.size wx (wx.alloc (.cells (pscs (List.replicate (n + 100) ⟨⟨0, 0, false⟩, 0, 0⟩)).toArray 31)) := (Below.refl _ _).alloc (Nat.le_refl _) _
          refine ⟨.slice (some ⟨wx.heap.size, 0, none⟩) (n + 100) (n + 100), wx.alloc (.cells (pscs (List.replicate (n + 100) ⟨⟨0, 0, false⟩, 0, 0⟩)).toArray 31), { sg with m := wx.heap.size }, by go_simp, ⟨hW.1.trans (b1.mono hW.1.size), fun h => (hW.2.1 (by simpa [upd] using h)).below b1, fun h => (b1.block _ (heap_lt (hW.2.2.1 (by simpa [upd] using h)))).trans (hW.2.2.1 (by simpa [upd] using h)), fun _ => heap_alloc_new _ _⟩, rfl, ?_⟩
          intro i u hi h
          have i0 : i ≠ 4 := by rintro rfl; rw [hl] at hi; cases hi
          unfold Sm7V at h ⊢
          split at h <;> first | exact h | exact absurd rfl i0
        · refine step_call fun sg ly a wx hl hd hW hF => ?_
          simp [Region.binds] at hd
          have et287 := hF.new 0 287 (by simp [hd]) rfl
          simp [Sm7V, Act.eval] at et287
          have et288 := hF.new 1 288 (by simp [hd]) rfl
          simp [Sm7V, Act.eval] at et288
          have et291 := hF.new 4 291 (by simp [hd]) rfl
          simp [Sm7V, Act.eval] at et291
          have y0 : ly 0 = true := by simp [hd]
          have y1 : ly 1 = true := by simp [hd]
          have y4 : ly 4 = true := by simp [hd]
          refine ⟨13, #[.agg #[.slice (some ⟨sg.b, 0, none⟩) 3 3, .int .i64 2, .int .i64 3, .int .i64 1, .int .i64 2], .slice (some ⟨sg.d, 0, none⟩) 9 9, .slice (some ⟨sg.m, 0, none⟩) (n + 100) (n + 100)], by go_simp, ?_⟩
          have hc := review_zero (hW.2.1 y0) HN.out (hW.2.2.1 y1) (hW.2.2.2 y4)
          rw [HGS.out.1, HGS.out.2] at hc
          refine hc.mono ?_
          rintro e w2 ⟨⟨A, c, rfl⟩, b1⟩
          exact ⟨_, sg, rfl, ⟨hW.1.trans (b1.mono hW.1.size), fun _ => (hW.2.1 y0).below b1, fun _ => (b1.block _ (heap_lt (hW.2.2.1 y1))).trans (hW.2.2.1 y1), fun _ => (b1.block _ (heap_lt (hW.2.2.2 y4))).trans (hW.2.2.2 y4)⟩, ⟨A, c, rfl⟩, fun _ _ _ h => h⟩
        · refine step_pure fun sg ly a wx hl hd hW hF => ?_
          simp [Region.binds] at hd
          have et292 := hF.new 5 292 (by simp [hd]) rfl
          simp [Sm7V, Act.eval] at et292
          obtain ⟨A, c, et292⟩ := et292
          exact ⟨by simpa [Sm7W, upd] using hW, .tuple #[.slice A rl c, .int .i64 gs], by go_simp, ⟨A, c, rfl⟩⟩
        · refine step_pure fun sg ly a wx hl hd hW hF => ?_
          simp [Region.binds] at hd
          have et286 := hF.new 6 286 (by simp [hd]) rfl
          simp [Sm7V, Act.eval] at et286
          obtain ⟨A, c, et286⟩ := et286
          exact ⟨by simpa [Sm7W, upd] using hW, .slice A rl c, by go_simp, ⟨A, c, rfl⟩⟩
        · refine step_pure fun sg ly a wx hl hd hW hF => ?_
          simp [Region.binds] at hd
          have et286 := hF.new 6 286 (by simp [hd]) rfl
          simp [Sm7V, Act.eval] at et286
          obtain ⟨A, c, et286⟩ := et286
          exact ⟨by simpa [Sm7W, upd] using hW, .int .i64 gs, by go_simp, rfl⟩
        · refine step_pure fun sg ly a wx hl hd hW hF => ?_
          simp [Region.binds] at hd
          have et293 := hF.new 7 293 (by simp [hd]) rfl
          simp [Sm7V, Act.eval] at et293
          obtain ⟨A, c, et293⟩ := et293
          exact ⟨by simpa [Sm7W, upd] using hW, .slice A rl c, by go_simp, ⟨A, c, rfl⟩⟩
        · refine step_pure fun sg ly a wr hl hd hW hF => ?_
          simp [Region.binds] at hd
          have et294 := hF.new 8 294 (by simp [hd]) rfl
          simp [Sm7V, Act.eval] at et294
          exact ⟨by simpa [Sm7W, upd] using hW, .int .i64 gs, by go_simp, rfl⟩
      intro sg a w7 hW hF
      have e30 := hF.new 9 30 (by decide) rfl
      have e31 := hF.new 10 31 (by decide) rfl
      obtain ⟨fr, hf, rfl⟩ := hF.lit
      rw [← hf] at e30 e31
      simp only [Sm7V] at e30 e31
      obtain ⟨A30, c30, e30⟩ := e30
      have HS7 := Lib.hid (HS6.out.below hW.1)
      clear hf hF hW
      simp only [List.filterMap, List.foldl, List.setIfInBounds_toArray, List.set_cons_succ, List.set_cons_zero, e30, e31]
      clear e30 e31
      have p0 : w7.cell? ⟨pb, 0, none⟩ = some (.slice As L.length cs) := (cell_of_heap HS7.out.blk 0).trans rfl
      have p1 : w7.cell? ⟨pb, 1, none⟩ = some (.int .i64 2) := (cell_of_heap HS7.out.blk 1).trans rfl
      have p2 : w7.cell? ⟨pb, 2, none⟩ = some (.int .i64 3) := (cell_of_heap HS7.out.blk 2).trans rfl
      have p3 : w7.cell? ⟨pb, 3, none⟩ = some (.int .i64 1) := (cell_of_heap HS7.out.blk 3).trans rfl
      have p4 : w7.cell? ⟨pb, 4, none⟩ = some (.int .i64 2) := (cell_of_heap HS7.out.blk 4).trans rfl
      have zp := heap_lt HS7.out.blk
      have kp := policy_any As cs ⟨L, 2, 3, 1, 2⟩ w7 ⟨HS7.out.own.ge, HS7.out.own.cap, HS7.out.own.rd⟩ (by have := HK.out.2; simp only; omega)
      have KP := Lib.hid kp
      clear kp
      have ewn : IntKind.i64.wrap ((n : Int) + 100) = (n : Int) + 100 := IntWalk.i64_in _ (by omega)
      have ewm : IntKind.i64.wrap ((n : Int) + 1) = (n : Int) + 1 := IntWalk.i64_in _ (by omega)
      clear h1 h2
      rcases HFC.out with ⟨hn4, hfe, hfl⟩ | ⟨hn4, hfe, hck0⟩ | ⟨hn4, hfe, hck0⟩
      · have n1 : n ≠ 401 := by omega
        have hfs := HFS.out
        have hgs := HGS.out.2
        have hrl := HGS.out.1
        rw [if_neg n1] at hfs hgs hrl
        have hle : (n : Int) ≤ 400 := by omega
        have hng : ¬ ((400 : Int) < (n : Int)) := by omega
        clear HFS HGS HFC n1 hn4
        subst hfs hgs hrl hfe
        by_cases hz : fe = 0
        · have hfl' := hfl hz
          clear hfl
          subst hfl'
          subst hz
          go_wp2_with fail
          refine KP.out.mono ?_
          rintro e w8 ⟨A8, c8, q8, rfl, hown, _, b8⟩
          have kc := rcheck_any A8 c8 ⟨L, 2, 3, 1, 2⟩ w8 ⟨hown.ge, hown.cap, hown.rd⟩
          rw [← HK.out.1] at kc
          have KC := Lib.hid kc
          have HS8 := Lib.hid (HS7.out.below b8)
          clear kc hown b8 KP p0 p1 p2 p3 p4 zp
          go_wp2_with fail
          refine KC.out.mono ?_
          rintro e w9 ⟨rfl, b9⟩
          have HS9 := Lib.hid (HS8.out.below b9).bel
          clear b9 KC
          go_wp2_with fail
          exact HI.out _ _ _ _ _ _ _ _ _ _ _ _ _ _ _ _ _ _ _ _ _ _ _ _ _ _ _ _ _ _ _ _ _ _ _ _ _ _ _ _ _ _ _ _ _ _ _ _ _ _ _ _ _ _ _ _ _ _ _ _ _ _ _ _ _ _ _ _ _ _ _ _ _ _ _ _ _ _ _ _ _ _ _ _ _ _ _ _ _ _ _ _ _ _ _ _ _ _ _ _ _ _ _ _ _ _ _ _ _ _ HS9.out
        · have hzb : (fe == 0) = false := beq_eq_false_iff_ne.2 hz
          clear hfl
          go_wp2_with fail
          refine KP.out.mono ?_
          rintro e w8 ⟨A8, c8, q8, rfl, hown, _, b8⟩
          have kc := rcheck_any A8 c8 ⟨L, 2, 3, 1, 2⟩ w8 ⟨hown.ge, hown.cap, hown.rd⟩
          rw [← HK.out.1] at kc
          have KC := Lib.hid kc
          have HS8 := Lib.hid (HS7.out.below b8)
          clear kc hown b8 KP p0 p1 p2 p3 p4 zp
          go_wp2_with fail
          refine KC.out.mono ?_
          rintro e w9 ⟨rfl, b9⟩
          have HS9 := Lib.hid (HS8.out.below b9).bel
          clear b9 KC
          go_wp2_with fail
          exact HI.out _ _ _ _ _ _ _ _ _ _ _ _ _ _ _ _ _ _ _ _ _ _ _ _ _ _ _ _ _ _ _ _ _ _ _ _ _ _ _ _ _ _ _ _ _ _ _ _ _ _ _ _ _ _ _ _ _ _ _ _ _ _ _ _ _ _ _ _ _ _ _ _ _ _ _ _ _ _ _ _ _ _ _ _ _ _ _ _ _ _ _ _ _ _ _ _ _ _ _ _ _ _ _ _ _ _ _ _ _ _ HS9.out
      · have hfs := HFS.out
        have hgs := HGS.out.2
        have hrl := HGS.out.1
        rw [if_pos hn4] at hfs hgs hrl
        have hle : ¬ ((n : Int) ≤ 400) := by omega
        have hng : (400 : Int) < (n : Int) := by omega
        clear HFS HGS HFC hn4
        subst hfs hgs hrl hfe
        have hzb : (fe == 0) = false := beq_eq_false_iff_ne.2 hck0
        go_wp2_with fail
        refine KP.out.mono ?_
        rintro e w8 ⟨A8, c8, q8, rfl, hown, _, b8⟩
        have kc := rcheck_any A8 c8 ⟨L, 2, 3, 1, 2⟩ w8 ⟨hown.ge, hown.cap, hown.rd⟩
        rw [← HK.out.1] at kc
        have KC := Lib.hid kc
        have HS8 := Lib.hid (HS7.out.below b8)
        clear kc hown b8 KP p0 p1 p2 p3 p4 zp
        go_wp2_with fail
        refine KC.out.mono ?_
        rintro e w9 ⟨rfl, b9⟩
        have HS9 := Lib.hid (HS8.out.below b9).bel
        clear b9 KC
        go_wp2_with fail
        exact HI.out _ _ _ _ _ _ _ _ _ _ _ _ _ _ _ _ _ _ _ _ _ _ _ _ _ _ _ _ _ _ _ _ _ _ _ _ _ _ _ _ _ _ _ _ _ _ _ _ _ _ _ _ _ _ _ _ _ _ _ _ _ _ _ _ _ _ _ _ _ _ _ _ _ _ _ _ _ _ _ _ _ _ _ _ _ _ _ _ _ _ _ _ _ _ _ _ _ _ _ _ _ _ _ _ _ _ _ _ _ _ HS9.out
      · have hfs := HFS.out
        have hgs := HGS.out.2
        have hrl := HGS.out.1
        rw [if_pos hn4] at hfs hgs hrl
        have hle : ¬ ((n : Int) ≤ 400) := by omega
        have hng : (400 : Int) < (n : Int) := by omega
        clear HFS HGS HFC hn4
        subst hfs hgs hrl hfe
        go_wp2_with fail
        refine KP.out.mono ?_
        rintro e w8 ⟨A8, c8, q8, rfl, hown, _, b8⟩
        have kc := rcheck_any A8 c8 ⟨L, 2, 3, 1, 2⟩ w8 ⟨hown.ge, hown.cap, hown.rd⟩
        rw [← HK.out.1] at kc
        have KC := Lib.hid kc
        have HS8 := Lib.hid (HS7.out.below b8)
        clear kc hown b8 KP p0 p1 p2 p3 p4 zp
        go_wp2_with fail
        refine KC.out.mono ?_
        rintro e w9 ⟨rfl, b9⟩
        have HS9 := Lib.hid (HS8.out.below b9).bel
        clear b9 KC
        go_wp2_with fail
        exact HI.out _ _ _ _ _ _ _ _ _ _ _ _ _ _ _ _ _ _ _ _ _ _ _ _ _ _ _ _ _ _ _ _ _ _ _ _ _ _ _ _ _ _ _ _ _ _ _ _ _ _ _ _ _ _ _ _ _ _ _ _ _ _ _ _ _ _ _ _ _ _ _ _ _ _ _ _ _ _ _ _ _ _ _ _ _ _ _ _ _ _ _ _ _ _ _ _ _ _ _ _ _ _ _ _ _ _ _ _ _ _ HS9.out
end Go.Proofs.YtbgnkljjgfcngaaGreat
/- RestrictSmall (printed by wip/tools/small.main.py) -/
namespace Go.Proofs.YtbgnkljjgfcngaaGreat
open Go Go.RowKit Sp
set_option linter.unusedVariables false

def smallV : List Int := [-1, 0, 1, 2, 3, 6, 7, 8, 9, 30, 31, 60, 61, 99, 100, 101, 149, 150, 151, 199, 200, 201, 2000, 2001, 500000, 500001, 9223372036854775807, -9223372036854775808]
theorem smallV_ge : ∀ x ∈ smallV, -9223372036854775808 ≤ x := by decide
set_option maxRecDepth 100000 in
set_option maxHeartbeats 8000000 in
theorem small_any (w0 : World) : Calls Tryz.prog 3 #[] w0 fun e w' => e = .returned (.bool true) ∧ Below w0.heap.size w0 w' := by
  go_enter Tryz.func3, Tryz.ntmps3
  go_wp2_with fail
  obtain ⟨X, hX⟩ : ∃ X, X = w0.alloc (.cells #[.int .i64 (-1), .int .i64 0, .int .i64 1, .int .i64 2, .int .i64 3, .int .i64 6, .int .i64 7, .int .i64 8, .int .i64 9, .int .i64 30, .int .i64 31, .int .i64 60, .int .i64 61, .int .i64 99, .int .i64 100, .int .i64 101, .int .i64 149, .int .i64 150, .int .i64 151, .int .i64 199, .int .i64 200, .int .i64 201, .int .i64 2000, .int .i64 2001, .int .i64 500000, .int .i64 500001, .int .i64 9223372036854775807, .int .i64 (-9223372036854775808)] 3) := ⟨_, rfl⟩
  obtain ⟨vb, hvb⟩ : ∃ b, b = w0.heap.size := ⟨_, rfl⟩
  have hX1 : Below w0.heap.size w0 X := by rw [hX]; exact (Below.refl _ _).alloc (Nat.le_refl _) _
  have hX2 : X.heap[vb]? = some (.cells (ints smallV).toArray 3 (0, 0)) := by rw [hX, hvb]; exact heap_alloc_new _ _
  rw [← hX, ← hvb]
  have HX := Lib.hid (And.intro hX1 hX2)
  clear hX hX1 hX2
  go_loopw [36] (fun i wr => ∃ n : Nat, n ≤ 28 ∧ i = .int .i64 n ∧ Below X.heap.size X wr) (fun i _ => 28 - (intOf i).toNat)
  case atStart => exact ⟨0, by omega, rfl, Below.refl _ _⟩
  case round =>
    obtain ⟨n, hn, rfl, hb⟩ := hrel
    have HB := Lib.hid hb
    clear hb
    by_cases hl : n < 28
    · have hh := (HB.out.block _ (heap_lt HX.out.2)).trans HX.out.2
      have hlv : n < smallV.length := hl
      have hcl : wr.cell? ⟨vb, n, none⟩ = some (.int .i64 smallV[n]) := by
        rw [cell_of_heap hh]
        simp [ints, hlv]
      refine smallA hl (smallV_ge _ (List.getElem_mem hlv)) hcl (heap_lt hh) ?_
      intros
      rename_i w' hr
      refine ⟨?_, by simp [intOf]; omega⟩
      repeat apply Exists.intro
      refine ⟨?_, rfl⟩
      exact ⟨n + 1, by omega, by go_num, HB.out.trans (hr.mono HB.out.size)⟩
    · have hl' : ¬ (n : Int) < 28 := by omega
      have HW := Lib.hid (HX.out.1.trans (HB.out.mono HX.out.1.size))
      clear hn hl HB HX
      go_wp2_with fail
      go_loopw [188] (fun i wr => ∃ n : Nat, n ≤ 1024 ∧ i = .int .i64 n ∧ Below w0.heap.size w0 wr) (fun i _ => 1024 - (intOf i).toNat)
      case atStart => exact ⟨0, by omega, rfl, HW.out⟩
      case round =>
        obtain ⟨n, hn, rfl, hb⟩ := hrel
        have HB := Lib.hid hb
        clear hb
        by_cases hl : n < 1024
        · refine small3 hl ?_
          intros
          rename_i w' hr
          refine ⟨?_, by simp [intOf]; omega⟩
          repeat apply Exists.intro
          refine ⟨?_, rfl⟩
          exact ⟨n + 1, by omega, by go_num, HB.out.trans (hr.mono HB.out.size)⟩
        · have hl' : ¬ (n : Int) < 1024 := by omega
          clear hn hl
          go_wp2_with fail
          go_loopw [22] (fun i wr => ∃ n : Nat, 399 ≤ n ∧ n ≤ 402 ∧ i = .int .i64 n ∧ Below w0.heap.size w0 wr) (fun i _ => 402 - (intOf i).toNat)
          case atStart => exact ⟨399, by omega, by omega, rfl, HB.out⟩
          case round =>
            obtain ⟨n, hn0, hn, rfl, hb⟩ := hrel
            have HB := Lib.hid hb
            clear hb
            by_cases hl : n < 402
            · refine small5 hn0 (by omega) ?_
              intros
              rename_i w' hr
              refine ⟨?_, by simp [intOf]; omega⟩
              repeat apply Exists.intro
              refine ⟨?_, rfl⟩
              exact ⟨n + 1, by omega, by omega, by go_num, HB.out.trans (hr.mono HB.out.size)⟩
            · have hl' : ¬ (n : Int) < 402 := by omega
              clear hn0 hn hl
              go_wp2_with fail
              refine (Example_new _).mono ?_
              rintro e w1 ⟨sb, rfl, hs, gs, b1⟩
              have H1 := Lib.hid (And.intro hs (HB.out.trans (b1.mono HB.out.size)))
              clear hs gs b1
              have hrp := RpInt_any (some ⟨w1.heap.size, 0, none⟩) 1 [.int .i64 300] rfl (by simp [Value.oneCell']) 401 (by omega) (by omega) _ (rd_lit w1 1 1 [.int .i64 300] 3 rfl)
              have HRP := Lib.hid hrp
              clear hrp
              go_wp2_with fail
              refine HRP.out.mono ?_
              rintro e w2 ⟨gb, rfl, ⟨cur, hg, hr⟩, gg, b2⟩
              have b12 : Below w1.heap.size w1 w2 := ((Below.refl _ _).alloc (Nat.le_refl _) _).trans (b2.mono (by simp))
              have kf := force_days (some ⟨sb, 0, none⟩) 3 (polE 2 3 1) (some ⟨gb, 0, none⟩) 401 401 w2 (by omega) (ExAt.pol ((b12.block _ (heap_lt H1.out.1)).trans H1.out.1) 2 3 1) (rep_days hg hr)
              have H2 := Lib.hid (H1.out.2.trans (b12.mono H1.out.2.size))
              have KF := Lib.hid kf
              clear hg hr gg b2 b12 kf HRP
              go_wp2_with fail
              refine KF.out.mono ?_
              rintro e w3 ⟨Af, fl, cf, fe, rfl, hfc, b3⟩
              have H3 := Lib.hid (H2.out.trans (b3.mono H2.out.size))
              obtain rfl : fe = 2 := by
                rcases hfc with ⟨h, _⟩ | ⟨_, h, h0⟩ | ⟨_, h, _⟩
                · omega
                · exact absurd check_ex h0
                · exact h
              clear hfc b3 KF
              go_wp2_with fail
              refine (awake_any _).mono ?_
              rintro e w4 ⟨rfl, b4⟩
              have H4 := Lib.hid (H3.out.trans (b4.mono H3.out.size))
              clear b4
              go_wp2_with fail
              go_ret
              exact ⟨rfl, H4.out⟩
end Go.Proofs.YtbgnkljjgfcngaaGreat
