/- A round of RestrictNeeded's loop over the days. -/
import Derived.Test.YtfmhlnfcbbpfeaaRound
import Derived.Test.YtfmhlnfcbbpfeaaLawKit
import Derived.Test.YtfmhlnfcbbpfeaaNeededP
import Derived.IntWalk
namespace Go.Proofs.Ytfmhlnfcbbpfeaa
open Go Go.RowKit Sp
set_option linter.unusedVariables false

set_option maxRecDepth 100000 in
set_option maxHeartbeats 4000000 in
theorem needed3 {w W0 wo : World} {pb : Nat} {As : Option Addr} {cs : Nat} {p : Pol} {Ad : Option Addr} {cd : Nat} {days : List Int} {vb : Nat} {x t : Int} {eb : Bool} {Aw : Option Addr} {cw nl k aw a : Nat} {L : List (Int × Int)}
    (hl90 : days.length ≤ 90) (hst : startS p days = 0) (hvr : vright ⟨x, t, eb⟩ = true) (hwo : WinOk (passesS p days ⟨x, t, eb⟩) days.length L) (hnl : nl = L.length) (hLl : nl ≤ 90) (hlt : k < days.length) (haw : aw ≤ nl) (han : a < days.length)
    (hF : ∀ X, Below W0.heap.size W0 X → PD w X pb As cs p Ad days ∧ X.cell? ⟨vb, 0, none⟩ = some (.int .i64 x) ∧ X.cell? ⟨vb, 1, none⟩ = some (.int .i64 t) ∧ X.cell? ⟨vb, 2, none⟩ = some (.bool eb) ∧ vb < X.heap.size)
    (hrw : Rd W0 2 Aw nl (spcs L)) (hbef : ∀ i (hi : i < L.length), i < aw → L[i].2 < (k : Int)) (hb : Below W0.heap.size W0 wo) {s0 s1 s2 s3 s4 s5 s6 s7 s8 s9 s10 s11 s12 s15 s16 s18 s19 s20 s21 s22 s23 s24 s25 s26 s27 s30 s31 s34 s35 s36 s37 s38 s39 s40 s41 s42 s43 s44 s45 s46 s47 s48 s49 s50 s51 s52 s53 s54 s55 s56 s57 s58 s59 s60 s61 s62 s63 s64 s65 s66 s67 s68 s69 s70 s71 s72 s73 s74 s75 s76 s77 s78 s79 s80 s81 s82 s83 s84 s85 s86 s87 s88 s89 s90 s91 s92 s93 s94 s95 s96 s97 s98 s99 s100 s101 s102 s103 s104 s105 s106 s107 s108 s109 s110 s111 s112 s113 s114 s115 s116 s117 s118 s119 s120 s121 s122 s123 s124 s125 s126 s127 s128 s129 s130 s131 s132 s133 s134 s135 s136 s137 s138 s139 s140 s141 s142 s143 s144 s145 s146 s147 s148 s149 s150 s151 s152 s153 s154 s155 s156 s157 s158 s159 s160 s161 s162 s163 s164 s165 s166 s167 s168 s169 s170 s171 s172 s173 s174 s175 s176 s180 s181 s182 s183 s184 s185 s186 s187 s188 s189 s190 s191 s192 s193 s194 s195 s196 s197 s198 s199 s200 s201 s202 s203 s204 s205 s206 s207 s208 s209 s210 s211 s212 s213 s214 s215 s216 s217 s218 s219 s220 s221 s222 s223 s224 s225 s226 s227 s228 s229 s230 s231 s232 s233 s234 s235 s236 s237 s238 s239 s240 s241 s242 s243 s244 s245 s246 s247 s248 s249 s250 s251 s252 s253 s254 s255 s256 s257 s258 s259 s260 s261 s262 s263 s264 s265 s266 s267 s268 s269 s270 s271 s272 s273 s274 s275 s276 s277 s278 s279 s280 s281 s282 s283 s284 s285 s286 s287 s288 s289 s290 s291 s292 s293 s294 s295 s296 s297 s298 s299 s300 s301 s302 s303 s304 s305 s306 s307 s308 s309 s310 s311 s312 s313 : Value} {Q0 : Exit → Act → World → Prop} {Inv : Act → World → Prop}
    (hInv : ∀ (t12 t34 t35 t36 t37 t180 t181 t182 t183 t184 t185 t186 t187 t188 t189 t190 t191 t192 t193 t194 t195 t196 t197 t198 t199 t200 t201 t202 t203 t204 t205 t206 t207 t208 t209 t210 t211 t212 t213 t214 t215 t216 t217 t218 t219 t220 t221 t222 t223 t224 t225 t226 t227 t228 t229 t230 t231 t232 t233 t234 t235 t236 : Value) (f' : Int) (aw' : Nat) (w' : World), f' = fstN (passesS p days ⟨x, t, eb⟩) a (k + 1) ∧ aw' ≤ nl ∧ (∀ i (hi : i < L.length), i < aw' → L[i].2 < ((k + 1 : Nat) : Int)) ∧ Below W0.heap.size W0 w' → Inv ⟨#[s0, s1, s2, s3, s4, s5, s6, s7, s8, s9, s10, s11, t12, .pointer (some ⟨pb, 0, none⟩), .slice Ad days.length cd, s15, s16, .int .i64 a, s18, s19, s20, s21, s22, s23, s24, s25, s26, s27, .pointer (some ⟨vb, 0, none⟩), .slice Aw nl cw, s30, s31, .int .i64 f', .int .i64 aw', t34, t35, t36, t37, s38, s39, s40, s41, s42, s43, s44, s45, s46, s47, s48, s49, s50, s51, s52, s53, s54, s55, s56, s57, s58, s59, s60, s61, s62, s63, s64, s65, s66, s67, s68, s69, s70, s71, s72, s73, s74, s75, s76, s77, s78, s79, s80, s81, s82, s83, s84, s85, s86, s87, s88, s89, s90, s91, s92, s93, s94, s95, s96, s97, s98, s99, s100, s101, s102, s103, s104, s105, s106, s107, s108, s109, s110, s111, s112, s113, s114, s115, s116, s117, s118, s119, s120, s121, s122, s123, s124, s125, s126, s127, s128, s129, s130, s131, s132, s133, s134, s135, s136, s137, s138, s139, s140, s141, s142, s143, s144, s145, s146, s147, s148, s149, s150, s151, s152, s153, s154, s155, s156, s157, s158, s159, s160, s161, s162, s163, s164, s165, s166, s167, s168, s169, s170, s171, s172, s173, s174, s175, s176, .slice Ad days.length cd, .int .i64 days.length, .int .i64 ((k : Int) + 1), t180, t181, t182, t183, t184, t185, t186, t187, t188, t189, t190, t191, t192, t193, t194, t195, t196, t197, t198, t199, t200, t201, t202, t203, t204, t205, t206, t207, t208, t209, t210, t211, t212, t213, t214, t215, t216, t217, t218, t219, t220, t221, t222, t223, t224, t225, t226, t227, t228, t229, t230, t231, t232, t233, t234, t235, t236, s237, s238, s239, s240, s241, s242, s243, s244, s245, s246, s247, s248, s249, s250, s251, s252, s253, s254, s255, s256, s257, s258, s259, s260, s261, s262, s263, s264, s265, s266, s267, s268, s269, s270, s271, s272, s273, s274, s275, s276, s277, s278, s279, s280, s281, s282, s283, s284, s285, s286, s287, s288, s289, s290, s291, s292, s293, s294, s295, s296, s297, s298, s299, s300, s301, s302, s303, s304, s305, s306, s307, s308, s309, s310, s311, s312, s313], []⟩ w') :
    Code.wp Try.prog (loopBody Try.f7 2) (Exit.then Inv Q0) ⟨#[s0, s1, s2, s3, s4, s5, s6, s7, s8, s9, s10, s11, s12, .pointer (some ⟨pb, 0, none⟩), .slice Ad days.length cd, s15, s16, .int .i64 a, s18, s19, s20, s21, s22, s23, s24, s25, s26, s27, .pointer (some ⟨vb, 0, none⟩), .slice Aw nl cw, s30, s31, .int .i64 (fstN (passesS p days ⟨x, t, eb⟩) a k), .int .i64 aw, s34, s35, s36, s37, s38, s39, s40, s41, s42, s43, s44, s45, s46, s47, s48, s49, s50, s51, s52, s53, s54, s55, s56, s57, s58, s59, s60, s61, s62, s63, s64, s65, s66, s67, s68, s69, s70, s71, s72, s73, s74, s75, s76, s77, s78, s79, s80, s81, s82, s83, s84, s85, s86, s87, s88, s89, s90, s91, s92, s93, s94, s95, s96, s97, s98, s99, s100, s101, s102, s103, s104, s105, s106, s107, s108, s109, s110, s111, s112, s113, s114, s115, s116, s117, s118, s119, s120, s121, s122, s123, s124, s125, s126, s127, s128, s129, s130, s131, s132, s133, s134, s135, s136, s137, s138, s139, s140, s141, s142, s143, s144, s145, s146, s147, s148, s149, s150, s151, s152, s153, s154, s155, s156, s157, s158, s159, s160, s161, s162, s163, s164, s165, s166, s167, s168, s169, s170, s171, s172, s173, s174, s175, s176, .slice Ad days.length cd, .int .i64 days.length, .int .i64 k, s180, s181, s182, s183, s184, s185, s186, s187, s188, s189, s190, s191, s192, s193, s194, s195, s196, s197, s198, s199, s200, s201, s202, s203, s204, s205, s206, s207, s208, s209, s210, s211, s212, s213, s214, s215, s216, s217, s218, s219, s220, s221, s222, s223, s224, s225, s226, s227, s228, s229, s230, s231, s232, s233, s234, s235, s236, s237, s238, s239, s240, s241, s242, s243, s244, s245, s246, s247, s248, s249, s250, s251, s252, s253, s254, s255, s256, s257, s258, s259, s260, s261, s262, s263, s264, s265, s266, s267, s268, s269, s270, s271, s272, s273, s274, s275, s276, s277, s278, s279, s280, s281, s282, s283, s284, s285, s286, s287, s288, s289, s290, s291, s292, s293, s294, s295, s296, s297, s298, s299, s300, s301, s302, s303, s304, s305, s306, s307, s308, s309, s310, s311, s312, s313], []⟩ wo := by
  conv => arg 2; whnf
  obtain ⟨ff, hff⟩ : ∃ y, y = fstN (passesS p days ⟨x, t, eb⟩) a k := ⟨_, rfl⟩
  have hfr := fstN_range (passesS p days ⟨x, t, eb⟩) a k
  rw [← hff] at hfr ⊢
  have HBE := Lib.hid (And.intro hbef (And.intro hb hff))
  have HF := Lib.hid hF
  have HRW := Lib.hid hrw
  have HWO := Lib.hid hwo
  have HVR := Lib.hid hvr
  have HNL := Lib.hid hnl
  have HI := Lib.hid hInv
  clear hbef hb hff hF hrw hwo hvr hnl hInv
  go_wp2_with fail
  go_loop [33] (fun at_ => ∃ aw : Nat, aw ≤ nl ∧ at_ = .int .i64 aw ∧ (∀ i (hi : i < L.length), i < aw → L[i].2 < (k : Int))) (fun at_ => nl - (intOf at_).toNat)
  case atStart => exact ⟨aw, haw, rfl, HBE.out.1⟩
  case round =>
    obtain ⟨aj, haj, rfl, hbj⟩ := hrel
    have HBJ := Lib.hid hbj
    clear hbj
    by_cases hal : aj < nl
    · obtain ⟨bw, ow, rfl, zbw, kw⟩ := HRW.out.2 (by omega)
      have hal' : aj < L.length := by rw [← HNL.out]; exact hal
      obtain ⟨s0, s1⟩ := spcs_get hal'
      obtain ⟨lo, hlo⟩ : ∃ y, y = L[aj].1 := ⟨_, rfl⟩
      obtain ⟨hi, hhi⟩ : ∃ y, y = L[aj].2 := ⟨_, rfl⟩
      rw [← hlo] at s0
      rw [← hhi] at s1
      have hbw := HBE.out.2.1
      have c0 := (hbw.cell (p := ⟨bw, ow + aj * 2, none⟩) zbw).trans (kw _ _ s0)
      have c1 := (hbw.cell (p := ⟨bw, ow + (aj * 2 + 1), none⟩) zbw).trans (kw _ _ s1)
      rw [← Nat.add_assoc] at c1
      have HLH := Lib.hid (And.intro hlo hhi)
      clear hlo hhi s0 s1 kw hbw
      by_cases hhk : hi < (k : Int)
      · go_wp2_with fail
        go_round
        case measure => simp [intOf]; omega
        case rel => exact ⟨aj + 1, by omega, by go_num, fun i hil h => by
          by_cases e : i = aj
          · subst e; rw [← HLH.out.2]; exact hhk
          · exact HBJ.out i hil (by omega)⟩
      · have hday := HWO.out.day (d := k) (at_ := aj) hlt HBJ.out (fun _ => by rw [← HLH.out.2]; omega)
        obtain ⟨ix, hix⟩ : ∃ ix, ix = (passesS p days ⟨x, t, eb⟩).getD k false := ⟨_, rfl⟩
        have hdec : ix = decide (lo ≤ (k : Int)) := by
          rw [hix, hday, Bool.eq_iff_iff]
          simp only [decide_eq_true_eq]
          exact ⟨fun ⟨_, h⟩ => by rw [HLH.out.1]; exact h, fun h => ⟨hal', by rw [← HLH.out.1]; exact h⟩⟩
        obtain ⟨pdd, v0, v1, v2, zv⟩ := HF.out wo (HBE.out.2.1)
        obtain ⟨q0, q1, q2, q3, q4, zp⟩ := pdd.cells
        have kc : Calls Try.prog 17 #[.agg #[.slice As p.steps.length cs, .int .i64 p.hold, .int .i64 p.calm, .int .i64 p.notice, .int .i64 p.grace], .slice Ad days.length cd, .agg #[.int .i64 x, .int .i64 t, .bool eb], .int .i64 k] wo
            fun e w' => e = .returned (.tuple #[.bool ix, .int .i64 0]) ∧ Below wo.heap.size wo w' := by
          have := may_call cd hst pdd (by omega) HVR.out (k := k) hlt
          rwa [← hix] at this
        have KC := Lib.hid kc
        have HIX := Lib.hid hix
        clear pdd kc hix hday
        by_cases hlk : lo ≤ (k : Int)
        · obtain rfl : ix = true := by rw [hdec]; simpa using hlk
          clear hdec
          go_wp2_with (go_at_call 17; refine KC.out.mono ?_; rintro e V1 ⟨rfl, b1⟩; have HBV := Lib.hid (HBE.out.2.1.trans (b1.mono HBE.out.2.1.size)); clear b1 q0 q1 q2 q3 q4 zp v0 v1 v2 zv c0 c1)
          all_goals
            refine HI.out _ _ _ _ _ _ _ _ _ _ _ _ _ _ _ _ _ _ _ _ _ _ _ _ _ _ _ _ _ _ _ _ _ _ _ _ _ _ _ _ _ _ _ _ _ _ _ _ _ _ _ _ _ _ _ _ _ _ _ _ _ _ _ _ _ ⟨?_, by omega, fun i hil h => by have := HBJ.out i hil h; omega, HBV.out⟩
            first
              | rw [fstN, if_pos ⟨HIX.out.symm, by omega, by rw [← HBE.out.2.2]; omega⟩]
              | (rw [fstN, if_neg (fun h => by rw [← HBE.out.2.2] at h; omega), ← HBE.out.2.2])
        · obtain rfl : ix = false := by rw [hdec]; simpa using hlk
          clear hdec
          go_wp2_with (go_at_call 17; refine KC.out.mono ?_; rintro e V1 ⟨rfl, b1⟩; have HBV := Lib.hid (HBE.out.2.1.trans (b1.mono HBE.out.2.1.size)); clear b1 q0 q1 q2 q3 q4 zp v0 v1 v2 zv c0 c1)
          refine HI.out _ _ _ _ _ _ _ _ _ _ _ _ _ _ _ _ _ _ _ _ _ _ _ _ _ _ _ _ _ _ _ _ _ _ _ _ _ _ _ _ _ _ _ _ _ _ _ _ _ _ _ _ _ _ _ _ _ _ _ _ _ _ _ _ _ ⟨?_, by omega, fun i hil h => by have := HBJ.out i hil h; omega, HBV.out⟩
          rw [fstN, if_neg (fun h => by rw [← HIX.out] at h; exact absurd h.1 (by decide)), ← HBE.out.2.2]
    · have hday := HWO.out.day (d := k) (at_ := aj) hlt HBJ.out (fun h => absurd h (by rw [← HNL.out]; omega))
      obtain ⟨ix, hix⟩ : ∃ ix, ix = (passesS p days ⟨x, t, eb⟩).getD k false := ⟨_, rfl⟩
      obtain rfl : ix = false := by
        rw [hix, hday, decide_eq_false_iff_not]
        rintro ⟨h, _⟩
        rw [← HNL.out] at h; omega
      obtain ⟨pdd, v0, v1, v2, zv⟩ := HF.out wo (HBE.out.2.1)
      obtain ⟨q0, q1, q2, q3, q4, zp⟩ := pdd.cells
      have kc : Calls Try.prog 17 #[.agg #[.slice As p.steps.length cs, .int .i64 p.hold, .int .i64 p.calm, .int .i64 p.notice, .int .i64 p.grace], .slice Ad days.length cd, .agg #[.int .i64 x, .int .i64 t, .bool eb], .int .i64 k] wo
          fun e w' => e = .returned (.tuple #[.bool false, .int .i64 0]) ∧ Below wo.heap.size wo w' := by
        have := may_call cd hst pdd (by omega) HVR.out (k := k) hlt
        rwa [← hix] at this
      have KC := Lib.hid kc
      have HIX := Lib.hid hix
      clear pdd kc hix hday
      go_wp2_with (go_at_call 17; refine KC.out.mono ?_; rintro e V1 ⟨rfl, b1⟩; have HBV := Lib.hid (HBE.out.2.1.trans (b1.mono HBE.out.2.1.size)); clear b1 q0 q1 q2 q3 q4 zp v0 v1 v2 zv)
      refine HI.out _ _ _ _ _ _ _ _ _ _ _ _ _ _ _ _ _ _ _ _ _ _ _ _ _ _ _ _ _ _ _ _ _ _ _ _ _ _ _ _ _ _ _ _ _ _ _ _ _ _ _ _ _ _ _ _ _ _ _ _ _ _ _ _ _ ⟨?_, by omega, fun i hil h => by have := HBJ.out i hil h; omega, HBV.out⟩
      rw [fstN, if_neg (fun h => by rw [← HIX.out] at h; exact absurd h.1 (by decide)), ← HBE.out.2.2]
end Go.Proofs.Ytfmhlnfcbbpfeaa
