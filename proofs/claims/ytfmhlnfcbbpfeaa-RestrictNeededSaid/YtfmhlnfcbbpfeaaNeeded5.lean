/- A round of RestrictNeeded's loop over the windows. -/
import Derived.Test.YtfmhlnfcbbpfeaaRound
import Derived.Test.YtfmhlnfcbbpfeaaLawKit
import Derived.Test.YtfmhlnfcbbpfeaaNeededP
import Derived.Test.YtfmhlnfcbbpfeaaReviewed
import Derived.Test.YtfmhlnfcbbpfeaaEqual
namespace Go.Proofs.Ytfmhlnfcbbpfeaa
open Go Go.RowKit Sp
set_option linter.unusedVariables false

set_option maxRecDepth 100000 in
set_option maxHeartbeats 4000000 in
theorem needed5 {w W0 wr : World} {pb : Nat} {As : Option Addr} {cs : Nat} {p : Pol} {Ad : Option Addr} {cd : Nat} {days : List Int} {vb : Nat} {x t : Int} {eb : Bool} {Aw : Option Addr} {cw nl k : Nat} {L : List (Int × Int)}
    (hl90 : days.length ≤ 90) (hck : checkS p = 0) (hst : startS p days = 0) (hvr : vright ⟨x, t, eb⟩ = true) (hwo : WinOk (passesS p days ⟨x, t, eb⟩) days.length L) (hnl : nl = L.length) (hLl : nl ≤ 90) (hlt : k < nl)
    (hF : ∀ X, Below W0.heap.size W0 X → PD w X pb As cs p Ad days ∧ X.cell? ⟨vb, 0, none⟩ = some (.int .i64 x) ∧ X.cell? ⟨vb, 1, none⟩ = some (.int .i64 t) ∧ X.cell? ⟨vb, 2, none⟩ = some (.bool eb) ∧ vb < X.heap.size)
    (hrw : Rd W0 2 Aw nl (spcs L)) (hb : Below W0.heap.size W0 wr) {s0 s1 s2 s3 s4 s5 s6 s7 s8 s9 s10 s11 s12 s15 s16 s17 s18 s19 s20 s21 s22 s23 s24 s25 s26 s27 s30 s31 s32 s33 s34 s35 s36 s37 s38 s39 s40 s41 s42 s43 s44 s45 s46 s47 s48 s49 s50 s51 s52 s53 s54 s55 s56 s57 s58 s59 s60 s61 s62 s63 s64 s65 s66 s67 s68 s69 s70 s71 s72 s73 s74 s75 s76 s77 s78 s79 s80 s81 s82 s83 s84 s85 s86 s87 s88 s89 s90 s91 s92 s93 s94 s95 s96 s97 s98 s99 s100 s101 s102 s103 s104 s105 s106 s107 s108 s109 s110 s111 s112 s113 s114 s115 s116 s117 s118 s119 s120 s121 s122 s123 s124 s125 s126 s127 s128 s129 s130 s131 s132 s133 s134 s135 s136 s137 s138 s139 s140 s141 s142 s143 s144 s145 s146 s147 s148 s149 s150 s151 s152 s153 s154 s155 s156 s157 s158 s159 s160 s161 s162 s163 s164 s165 s166 s167 s168 s169 s170 s171 s172 s173 s174 s175 s176 s177 s178 s179 s180 s181 s182 s183 s184 s185 s186 s187 s188 s189 s190 s191 s192 s193 s194 s195 s196 s197 s198 s199 s200 s201 s202 s203 s204 s205 s206 s207 s208 s209 s210 s211 s212 s213 s214 s215 s216 s217 s218 s219 s220 s221 s222 s223 s224 s225 s226 s227 s228 s229 s230 s231 s232 s233 s234 s235 s236 s237 s238 s239 s240 s241 s242 s243 s244 s245 s246 s247 s248 s249 s250 s254 s255 s256 s257 s258 s259 s260 s261 s262 s263 s264 s265 s266 s267 s268 s269 s270 s271 s272 s273 s274 s275 s276 s277 s278 s279 s280 s281 s282 s283 s284 s285 s286 s287 s288 s289 s290 s291 s292 s293 s294 s295 s296 s297 s298 s299 s300 s301 s302 s303 s304 s305 s306 s307 s308 s309 s310 s311 s312 s313 : Value} {Q0 : Exit → Act → World → Prop} {Inv : Act → World → Prop}
    (hInv : ∀ (t12 t38 t39 t40 t41 t254 t255 t256 t257 t258 t259 t260 t261 t262 t263 t264 t265 t266 t267 t268 t269 t270 t271 t272 t273 t274 t275 t276 t277 t278 t279 t280 t281 t282 t283 t284 t285 t286 t287 t288 t289 t290 t291 t292 t293 t294 t295 t296 t297 t298 t299 t300 t301 t302 t303 t304 t305 t306 t307 t308 t309 t310 t311 t312 : Value)  (w' : World), Below W0.heap.size W0 w' → Inv ⟨#[s0, s1, s2, s3, s4, s5, s6, s7, s8, s9, s10, s11, t12, .pointer (some ⟨pb, 0, none⟩), .slice Ad days.length cd, s15, s16, s17, s18, s19, s20, s21, s22, s23, s24, s25, s26, s27, .pointer (some ⟨vb, 0, none⟩), .slice Aw nl cw, s30, s31, s32, s33, s34, s35, s36, s37, t38, t39, t40, t41, s42, s43, s44, s45, s46, s47, s48, s49, s50, s51, s52, s53, s54, s55, s56, s57, s58, s59, s60, s61, s62, s63, s64, s65, s66, s67, s68, s69, s70, s71, s72, s73, s74, s75, s76, s77, s78, s79, s80, s81, s82, s83, s84, s85, s86, s87, s88, s89, s90, s91, s92, s93, s94, s95, s96, s97, s98, s99, s100, s101, s102, s103, s104, s105, s106, s107, s108, s109, s110, s111, s112, s113, s114, s115, s116, s117, s118, s119, s120, s121, s122, s123, s124, s125, s126, s127, s128, s129, s130, s131, s132, s133, s134, s135, s136, s137, s138, s139, s140, s141, s142, s143, s144, s145, s146, s147, s148, s149, s150, s151, s152, s153, s154, s155, s156, s157, s158, s159, s160, s161, s162, s163, s164, s165, s166, s167, s168, s169, s170, s171, s172, s173, s174, s175, s176, s177, s178, s179, s180, s181, s182, s183, s184, s185, s186, s187, s188, s189, s190, s191, s192, s193, s194, s195, s196, s197, s198, s199, s200, s201, s202, s203, s204, s205, s206, s207, s208, s209, s210, s211, s212, s213, s214, s215, s216, s217, s218, s219, s220, s221, s222, s223, s224, s225, s226, s227, s228, s229, s230, s231, s232, s233, s234, s235, s236, s237, s238, s239, s240, s241, s242, s243, s244, s245, s246, s247, s248, s249, s250, .slice Aw nl cw, .int .i64 nl, .int .i64 ((k : Int) + 1), t254, t255, t256, t257, t258, t259, t260, t261, t262, t263, t264, t265, t266, t267, t268, t269, t270, t271, t272, t273, t274, t275, t276, t277, t278, t279, t280, t281, t282, t283, t284, t285, t286, t287, t288, t289, t290, t291, t292, t293, t294, t295, t296, t297, t298, t299, t300, t301, t302, t303, t304, t305, t306, t307, t308, t309, t310, t311, t312, s313], []⟩ w') :
    Code.wp Try.prog (loopBody Try.f7 4) (Exit.then Inv Q0) ⟨#[s0, s1, s2, s3, s4, s5, s6, s7, s8, s9, s10, s11, s12, .pointer (some ⟨pb, 0, none⟩), .slice Ad days.length cd, s15, s16, s17, s18, s19, s20, s21, s22, s23, s24, s25, s26, s27, .pointer (some ⟨vb, 0, none⟩), .slice Aw nl cw, s30, s31, s32, s33, s34, s35, s36, s37, s38, s39, s40, s41, s42, s43, s44, s45, s46, s47, s48, s49, s50, s51, s52, s53, s54, s55, s56, s57, s58, s59, s60, s61, s62, s63, s64, s65, s66, s67, s68, s69, s70, s71, s72, s73, s74, s75, s76, s77, s78, s79, s80, s81, s82, s83, s84, s85, s86, s87, s88, s89, s90, s91, s92, s93, s94, s95, s96, s97, s98, s99, s100, s101, s102, s103, s104, s105, s106, s107, s108, s109, s110, s111, s112, s113, s114, s115, s116, s117, s118, s119, s120, s121, s122, s123, s124, s125, s126, s127, s128, s129, s130, s131, s132, s133, s134, s135, s136, s137, s138, s139, s140, s141, s142, s143, s144, s145, s146, s147, s148, s149, s150, s151, s152, s153, s154, s155, s156, s157, s158, s159, s160, s161, s162, s163, s164, s165, s166, s167, s168, s169, s170, s171, s172, s173, s174, s175, s176, s177, s178, s179, s180, s181, s182, s183, s184, s185, s186, s187, s188, s189, s190, s191, s192, s193, s194, s195, s196, s197, s198, s199, s200, s201, s202, s203, s204, s205, s206, s207, s208, s209, s210, s211, s212, s213, s214, s215, s216, s217, s218, s219, s220, s221, s222, s223, s224, s225, s226, s227, s228, s229, s230, s231, s232, s233, s234, s235, s236, s237, s238, s239, s240, s241, s242, s243, s244, s245, s246, s247, s248, s249, s250, .slice Aw nl cw, .int .i64 nl, .int .i64 k, s254, s255, s256, s257, s258, s259, s260, s261, s262, s263, s264, s265, s266, s267, s268, s269, s270, s271, s272, s273, s274, s275, s276, s277, s278, s279, s280, s281, s282, s283, s284, s285, s286, s287, s288, s289, s290, s291, s292, s293, s294, s295, s296, s297, s298, s299, s300, s301, s302, s303, s304, s305, s306, s307, s308, s309, s310, s311, s312, s313], []⟩ wr := by
  conv => arg 2; whnf
  obtain ⟨bw, ow, rfl, zbw, kw⟩ := hrw.2 (by omega)
  have hl5 : k < L.length := by rw [← hnl]; exact hlt
  obtain ⟨s0, s1⟩ := spcs_get hl5
  obtain ⟨lo, hlo⟩ : ∃ y, y = L[k].1 := ⟨_, rfl⟩
  obtain ⟨hi, hhi⟩ : ∃ y, y = L[k].2 := ⟨_, rfl⟩
  rw [← hlo] at s0
  rw [← hhi] at s1
  have c0 := (hb.cell (p := ⟨bw, ow + k * 2, none⟩) zbw).trans (kw _ _ s0)
  have c1 := (hb.cell (p := ⟨bw, ow + (k * 2 + 1), none⟩) zbw).trans (kw _ _ s1)
  rw [← Nat.add_assoc] at c1
  have hrg := hwo.rng _ (List.getElem_mem hl5)
  rw [← hlo, ← hhi] at hrg
  obtain ⟨g1, g2, g3⟩ := hrg
  have hmy := hwo.may _ (List.getElem_mem hl5)
  rw [← hlo, ← hhi] at hmy
  have hpr : ∀ k' : Nat, k = k' + 1 → ∃ y, wr.cell? ⟨bw, ow + k' * 2 + 1, none⟩ = some (.int .i64 y) ∧ y + 1 < lo ∧ 0 ≤ y := by
    rintro k' rfl
    have hl6 : k' < L.length := by omega
    obtain ⟨_, s3⟩ := spcs_get hl6
    refine ⟨L[k'].2, ?_, ?_, ?_⟩
    · rw [Nat.add_assoc]; exact (hb.cell (p := ⟨bw, ow + (k' * 2 + 1), none⟩) zbw).trans (kw _ _ s3)
    · rw [hlo]; exact hwo.lt (by omega) hl5
    · have := hwo.rng _ (List.getElem_mem hl6); omega
  have HPR := Lib.hid (And.intro hpr (And.intro hmy (And.intro hb (And.intro hck (And.intro hst (And.intro hvr hnl))))))
  have HF := Lib.hid hF
  have HI := Lib.hid hInv
  clear hlo hhi s0 s1 kw hmy hpr hF hInv hwo hck hst hvr hnl hrw hb
  go_upto_region 50 with fail
  obtain ⟨V0, hV0⟩ : ∃ V, V = wr.alloc (.cells #[.int .i64 lo, .int .i64 hi] 42) := ⟨_, rfl⟩
  obtain ⟨sb, hsb⟩ : ∃ sb, sb = wr.heap.size := ⟨_, rfl⟩
  have bV0 : Below wr.heap.size wr V0 := by rw [hV0]; exact (Below.refl _ _).alloc (Nat.le_refl _) _
  have hsh : V0.heap[sb]? = some (.cells #[.int .i64 lo, .int .i64 hi] 42 (0, 0)) := by rw [hV0, hsb]; exact heap_alloc_new _ _
  have d0 := (cell_of_heap hsh 0).trans rfl
  have d1 := (cell_of_heap hsh 1).trans rfl
  have e1 : decide (lo < 0) = false := by simp; omega
  have e2 : decide (hi < lo) = false := by simp; omega
  have e3 : decide ((days.length : Int) ≤ hi) = false := by simp; omega
  rw [← hV0, ← hsb]
  have FS : ∀ X, Below V0.heap.size V0 X → PD w X pb As cs p Ad days ∧ (X.cell? ⟨vb, 0, none⟩ = some (.int .i64 x) ∧ X.cell? ⟨vb, 1, none⟩ = some (.int .i64 t) ∧ X.cell? ⟨vb, 2, none⟩ = some (.bool eb) ∧ vb < X.heap.size) ∧ (X.cell? ⟨sb, 0, none⟩ = some (.int .i64 lo) ∧ X.cell? ⟨sb, 1, none⟩ = some (.int .i64 hi) ∧ sb < X.heap.size) ∧ Below W0.heap.size W0 X := by
    intro X hX
    have h5 := (hX.block _ (heap_lt hsh)).trans hsh
    have hB : Below W0.heap.size W0 X := HPR.out.2.2.1.trans ((bV0.trans (hX.mono bV0.size)).mono HPR.out.2.2.1.size)
    obtain ⟨a1, a2, a3, a4, a5⟩ := HF.out X hB
    exact ⟨a1, ⟨a2, a3, a4, a5⟩, ⟨(cell_of_heap h5 0).trans rfl, (cell_of_heap h5 1).trans rfl, heap_lt h5⟩, hB⟩
  have HFS := Lib.hid FS
  have hzb : bw < wr.heap.size := Nat.lt_of_lt_of_le zbw HPR.out.2.2.1.size
  have hpv : k = 0 ∨ ∃ k' y, k = k' + 1 ∧ V0.cell? ⟨bw, ow + k' * 2 + 1, none⟩ = some (.int .i64 y) ∧ y + 1 < lo ∧ 0 ≤ y := by
    rcases Nat.eq_zero_or_pos k with h | h
    · exact .inl h
    · obtain ⟨y, h1, h2, h3⟩ := HPR.out.1 (k - 1) (by omega)
      exact .inr ⟨k - 1, y, by omega, (bV0.cell (p := ⟨bw, ow + (k - 1) * 2 + 1, none⟩) hzb).trans h1, h2, h3⟩
  have HPV := Lib.hid hpv
  clear FS hsh bV0 hV0 hsb c0 c1 hpv zbw hzb
  have n1 : (0 : Int) ≤ (k : Int) := by omega
  go_cut [290] from 258 to 290 (fun b wx => b = .bool false ∧ ∃ nq, wx = V0.drewN nq)
  case first =>
    rcases HPV.out with rfl | ⟨k', y, rfl, c5, y1, y2⟩
    · have e4 : decide ((0 : Int) < ((0 : Nat) : Int)) = false := rfl
      go_quiet (fail)
      go_wp2_with fail
      go_meet
      exact ⟨rfl, _, rfl⟩
    · have e5 : decide (lo ≤ y + 1) = false := by simp; omega
      have e6 : IntKind.i64.wrap (y + 1) = y + 1 := IntWalk.i64_in _ (by omega)
      have e7 : IntKind.i64.wrap (((k' + 1 : Nat) : Int) - 1) = k' := by rw [show (((k' + 1 : Nat) : Int) - 1) = (k' : Int) from by omega]; exact IntWalk.i64_in _ (by omega)
      go_quiet (fail)
      go_wp2_with fail
      go_meet
      exact ⟨rfl, _, rfl⟩
  case rest =>
  obtain ⟨rfl, nq, hwc⟩ := hcut
  obtain ⟨V, hV⟩ : ∃ V, V = V0.drewN nq := ⟨_, rfl⟩
  have bV : Below V0.heap.size V0 V := by rw [hV]; exact below_drewN (Below.refl _ _) _
  rw [← hV] at hwc
  subst hwc
  have HBV := Lib.hid bV
  clear hV bV d0 d1 e1 e2 e3
  obtain ⟨pdd, ⟨v0, v1, v2, zv⟩, ⟨d0, d1, zs⟩, _⟩ := HFS.out _ HBV.out
  obtain ⟨q0, q1, q2, q3, q4, zp⟩ := pdd.cells
  have hrv : ∀ X, PD w X pb As cs p Ad days → Calls Try.prog 15 #[.agg #[.slice As p.steps.length cs, .int .i64 p.hold, .int .i64 p.calm, .int .i64 p.notice, .int .i64 p.grace], .slice Ad days.length cd, .slice (some ⟨X.heap.size, 0, none⟩) 1 1] (X.alloc (.cells #[.int .i64 x, .int .i64 t, .bool eb, .int .i64 lo, .int .i64 hi] 35))
      fun e w' => ∃ A c, e = .returned (.tuple #[.slice A 1 c, .int .i64 0]) ∧ Rd w' 1 A 1 (ints [0]) ∧ Below X.heap.size X w' := by
    intro X hX
    obtain ⟨a1, rfl⟩ := Int.eq_ofNat_of_zero_le g1
    obtain ⟨z1, rfl⟩ := Int.eq_ofNat_of_zero_le (show 0 ≤ hi by omega)
    have b0 : Below X.heap.size X (X.alloc (.cells #[.int .i64 x, .int .i64 t, .bool eb, .int .i64 a1, .int .i64 z1] 35)) := (Below.refl _ _).alloc (Nat.le_refl _) _
    have ho : outcome p days ⟨⟨x, t, eb⟩, a1, z1⟩ = 0 := win_outcome (by omega) (fun d h1 h2 => HPR.out.2.1 d (by omega) (by omega))
    have := review_ok As cs p Ad cd days (some ⟨X.heap.size, 0, none⟩) 1 [⟨⟨x, t, eb⟩, a1, z1⟩] 1 _ rfl HPR.out.2.2.2.2.1 (fun y hy => by rw [List.mem_singleton.1 hy]; exact psgE_ok HPR.out.2.2.2.2.2.1 (by omega) (by omega)) (by simp) (hX.pol.below b0) (hX.dys.below b0) (by omega) (rd_lit X 5 1 (pscs [⟨⟨x, t, eb⟩, a1, z1⟩]) 35 rfl)
    refine this.mono ?_
    rintro e w' ⟨A, c, rfl, h1, h2⟩
    rw [List.map_singleton, ho] at h1
    exact ⟨A, c, rfl, h1, b0.trans (h2.mono (by simp))⟩
  have HRV := Lib.hid (And.intro (hrv _ pdd) pdd)
  clear hrv pdd
  go_wp2_with fail
  refine HRV.out.1.mono ?_
  rintro e V1 ⟨Ar, cr, rfl, rr, b1⟩
  have heq := eqInts_any Ar cr [0] (some ⟨V1.heap.size, 0, none⟩) 1 [0] (V1.alloc (.cells #[.int .i64 0] 3)) (rr.below ((Below.refl _ _).alloc (Nat.le_refl _) _)) (rd_lit V1 1 1 (ints [0]) 3 rfl) (by simp) (by simp)
  have hbz : Below W0.heap.size W0 V1 := (HFS.out _ (HBV.out.trans (b1.mono HBV.out.size))).2.2.2
  have HEQ := Lib.hid (And.intro heq hbz)
  clear heq hbz b1 rr q0 q1 q2 q3 q4 zp v0 v1 v2 zv d0 d1 zs
  go_wp2_with fail
  refine HEQ.out.1.mono ?_
  rintro e V2 ⟨rfl, b2⟩
  have hbz : Below W0.heap.size W0 V2 := (HEQ.out.2.alloc HEQ.out.2.size _).trans (b2.mono (by have := HEQ.out.2.size; simp; omega))
  have HBZ := Lib.hid hbz
  clear b2 hbz
  go_wp2_with fail
  exact HI.out _ _ _ _ _ _ _ _ _ _ _ _ _ _ _ _ _ _ _ _ _ _ _ _ _ _ _ _ _ _ _ _ _ _ _ _ _ _ _ _ _ _ _ _ _ _ _ _ _ _ _ _ _ _ _ _ _ _ _ _ _ _ _ _ _ HBZ.out
end Go.Proofs.Ytfmhlnfcbbpfeaa
