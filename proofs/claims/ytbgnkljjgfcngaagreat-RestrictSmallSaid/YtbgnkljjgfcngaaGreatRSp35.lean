/- the middle of RestrictBounds (printed by wip/tools/bnd.py) -/
import Derived.Test.YtbgnkljjgfcngaaGreatRSp34
set_option linter.unusedVariables false
set_option linter.unusedSimpArgs false
namespace Go.Proofs.YtbgnkljjgfcngaaGreat
open Go Go.RowKit Sp
set_option linter.unusedSimpArgs false
set_option linter.unusedVariables false

set_option maxRecDepth 100000 in
set_option maxHeartbeats 4000000 in
theorem bounds_t2 {Q0 : Exit → Act → World → Prop} {w w12 : World} {b13 b14 vb ib cb : Nat} {p : Pol} {v : Ves} {day : Int} {x : Ice} {a b c : Int} {l : List (Int × Int)} {cl : List Cel} {ns : List Int} {Ac : Option Addr} {cc : Nat} {Ap : Option Addr} {cp : Nat} {Ao : Option Addr} {co : Nat} {A : Option Addr} {ca : Nat} {Ak : Option Addr} {ck : Nat} {An : Option Addr} {cn : Nat} {Acl : Option Addr} {ccl : Nat} {LB : List (Int × Int)} {bE : Int} {sB pB : Bool} {sE gN iE dE d1 d2 cE : Int} (hcc : Acl = none → cl.length = 0 ∧ ccl = 0) (hpl : p.steps.length ≤ 20) (hl2 : l.length ≤ 420) (hcl : cl.length ≤ 100) (hns : ns.length ≤ 20) (hS : BQ w w12 b13 b14 vb ib cb p v x a b c l cl ns Ac cc Ap cp Ao A Ak An Acl ccl) (hC : BC w b13 b14 vb ib cb p v day x a b c l cl ns Ac cc Ap cp Ao co A ca Ak ck An cn Acl ccl LB bE sB pB sE gN iE dE d1 d2 cE) {s0 s2 s3 s4 s5 s7 s8 s9 s10 s11 s13 s19 s20 s21 s22 s23 s24 s25 s26 s27 s28 s29 s30 s31 s32 s33 s34 s35 s36 s37 s38 s39 s40 s41 s42 s43 s44 s45 s46 s47 s48 s49 s50 s51 s52 s53 s54 s55 s56 s57 s58 s59 s60 s61 s62 s63 s64 s65 s66 s67 s68 s69 s70 s71 s72 s73 s74 s75 s76 s77 s78 s79 s80 s81 s82 s83 s84 s85 s86 s87 s88 s89 s90 s91 s92 s93 s94 s95 s96 s97 s98 s99 s100 s101 s102 s103 s104 s105 s106 s107 s108 s109 s110 s111 s112 s113 s114 s115 s116 s117 s118 s119 s120 s121 s122 s123 s124 s125 s126 s127 s128 s129 s130 s131 s132 s133 s134 s135 s136 s137 s138 s139 s140 s141 s142 s143 s144 s145 s146 s147 s148 s149 s150 s151 s152 s153 s154 s155 s156 s157 s158 s159 s160 s161 s162 s163 s164 s165 s166 s167 s168 s169 s170 s171 s172 s173 s174 s175 s176 s177 s178 s179 s180 s181 s182 s183 s184 s185 s186 s187 s188 s189 s190 s191 s192 s193 s194 s195 s196 s197 s198 s199 s200 s201 s202 s203 s204 s205 s206 s207 s208 s209 s210 s211 s212 s213 s214 s215 s216 s217 s218 s219 s220 s221 s222 s223 s224 s225 s226 s227 s228 s229 s230 s231 s232 s233 s234 s235 s236 s237 s238 s239 s240 s241 s242 s243 s244 s245 s246 s247 s248 s249 s250 s251 s252 s253 s254 s255 s256 s257 s258 s259 s260 s261 s262 : Value} (hQ0 : ∀ e1 a1 w1, bodyPost Tryz.prog Tryz.f9 (fun e w' => e = .returned (.bool true) ∧ Below w.heap.size w w') e1 a1 w1 → Q0 e1 a1 w1) :
  Code.wp Tryz.prog (restOf Tryz.f9 18) Q0 ⟨#[s0, .slice A l.length ca, s2, s3, s4, s5, .slice An ns.length cn, s7, s8, s9, s10, s11, .pointer (some ⟨cb, 0, none⟩), s13, .bool false, .pointer (some ⟨b13, 0, none⟩), .pointer (some ⟨b14, 0, none⟩), .slice Ao l.length co, .slice Ak ns.length ck, s19, s20, s21, s22, s23, s24, s25, s26, s27, s28, s29, s30, s31, s32, s33, s34, s35, s36, s37, s38, s39, s40, s41, s42, s43, s44, s45, s46, s47, s48, s49, s50, s51, s52, s53, s54, s55, s56, s57, s58, s59, s60, s61, s62, s63, s64, s65, s66, s67, s68, s69, s70, s71, s72, s73, s74, s75, s76, s77, s78, s79, s80, s81, s82, s83, s84, s85, s86, s87, s88, s89, s90, s91, s92, s93, s94, s95, s96, s97, s98, s99, s100, s101, s102, s103, s104, s105, s106, s107, s108, s109, s110, s111, s112, s113, s114, s115, s116, s117, s118, s119, s120, s121, s122, s123, s124, s125, s126, s127, s128, s129, s130, s131, s132, s133, s134, s135, s136, s137, s138, s139, s140, s141, s142, s143, s144, s145, s146, s147, s148, s149, s150, s151, s152, s153, s154, s155, s156, s157, s158, s159, s160, s161, s162, s163, s164, s165, s166, s167, s168, s169, s170, s171, s172, s173, s174, s175, s176, s177, s178, s179, s180, s181, s182, s183, s184, s185, s186, s187, s188, s189, s190, s191, s192, s193, s194, s195, s196, s197, s198, s199, s200, s201, s202, s203, s204, s205, s206, s207, s208, s209, s210, s211, s212, s213, s214, s215, s216, s217, s218, s219, s220, s221, s222, s223, s224, s225, s226, s227, s228, s229, s230, s231, s232, s233, s234, s235, s236, s237, s238, s239, s240, s241, s242, s243, s244, s245, s246, s247, s248, s249, s250, s251, s252, s253, s254, s255, s256, s257, s258, s259, s260, s261, s262], []⟩ w12 := by
  refine wp_mono ?_ hQ0
  clear hQ0
  conv => arg 2; whnf
  have S12 := Lib.hid hS
  have C := Lib.hid hC
  have HC := Lib.hid hcc
  clear hS hC hcc
  obtain ⟨⟨a0, a1, a2, a3, a4, za⟩, ⟨b0, b1, b2, b3, b4, zb⟩, ⟨u0, u1, u2, zu⟩, ⟨i0, i1, i2, i3, zi⟩, c0, c1, c2, c3, zc⟩ := S12.out.cells
  go_upto_region 19 with fail
  have b13a : Below w12.heap.size w12 (w12.alloc (.cells #[.int .i64 a, .int .i64 b, .int .i64 c, .slice Acl cl.length ccl] 49)) := (Below.refl _ _).alloc (Nat.le_refl _) _
  have S13 := Lib.hid (S12.out.below b13a)
  have he : (w12.alloc (.cells #[.int .i64 a, .int .i64 b, .int .i64 c, .slice Acl cl.length ccl] 49)).heap[w12.heap.size]? = some (.cells #[.int .i64 a, .int .i64 b, .int .i64 c, .slice Acl cl.length ccl] 49 (0, 0)) := heap_alloc_new _ _
  obtain ⟨eb, heb⟩ : ∃ eb, eb = w12.heap.size := ⟨_, rfl⟩
  rw [← heb] at he ⊢
  generalize w12.alloc (.cells #[.int .i64 a, .int .i64 b, .int .i64 c, .slice Acl cl.length ccl] 49) = w13 at S13 he b13a ⊢
  have E13 := Lib.hid (And.intro he (And.intro heb b13a))
  clear he heb b13a a0 a1 a2 a3 a4 za b0 b1 b2 b3 b4 zb u0 u1 u2 zu i0 i1 i2 i3 zi c0 c1 c2 c3 zc
  obtain ⟨⟨a0, a1, a2, a3, a4, za⟩, ⟨b0, b1, b2, b3, b4, zb⟩, ⟨u0, u1, u2, zu⟩, ⟨i0, i1, i2, i3, zi⟩, c0, c1, c2, c3, zc⟩ := S13.out.cells
  go_wp2_with fail
  refine (cloneCell_any Acl cl.length ccl (cels cl) w13 S13.out.rc (cels_one _) HC.out (by omega)).mono ?_
  rintro e w14 ⟨Aq, cq, qq, rfl, oq, nq, bq⟩
  clear a0 a1 a2 a3 a4 za b0 b1 b2 b3 b4 zb u0 u1 u2 zu i0 i1 i2 i3 zi c0 c1 c2 c3 zc
  have he14 := (bq.block _ (heap_lt E13.out.1)).trans E13.out.1
  have he15 : (w14.setCell ⟨eb, 3, none⟩ (.slice Aq cl.length cq)).heap[eb]? = some (.cells #[.int .i64 a, .int .i64 b, .int .i64 c, .slice Aq cl.length cq] 49 (0, 0)) := heap_set he14 3 _
  have rq15 : Rd (w14.setCell ⟨eb, 3, none⟩ (.slice Aq cl.length cq)) 8 Aq cl.length (cels cl) := (oq.setCell (fun hm => by have := nq _ hm; have := heap_lt E13.out.1; simp only at *; omega) _).rd
  have S15 := Lib.hid (S12.out.below ((E13.out.2.2.trans (bq.mono E13.out.2.2.size)).setCell (p := ⟨eb, 3, none⟩) (by have := E13.out.2.1; simp; omega) (.slice Aq cl.length cq)))
  have e3 := (cell_of_heap he14 3).trans rfl
  have fe := frozen_of_heap he14 3
  have ze := heap_lt he14
  have E15 := Lib.hid (And.intro he15 rq15)
  clear he14 he15 rq15 oq nq bq
  go_upto_region 20 with fail
  clear e3 fe ze
  generalize w14.setCell ⟨eb, 3, none⟩ (.slice Aq cl.length cq) = w15 at S15 E15 ⊢
  have e0 := (cell_of_heap E15.out.1 0).trans rfl
  have e1' := (cell_of_heap E15.out.1 1).trans rfl
  have e2' := (cell_of_heap E15.out.1 2).trans rfl
  have e3 := (cell_of_heap E15.out.1 3).trans rfl
  have ze := heap_lt E15.out.1
  go_wp2_with fail
  refine (C.out.dis _ Aq cq S15.out E15.out.2).mono ?_
  rintro e w16 ⟨rfl, bn⟩
  have S16 := Lib.hid (S15.out.below bn)
  have E16 := Lib.hid (And.intro ((bn.block _ (heap_lt E15.out.1)).trans E15.out.1) (E15.out.2.below bn))
  clear bn e0 e1' e2' e3 ze
  go_upto_region 21 with fail
  have b17 : Below w16.heap.size w16 (w16.alloc (.cells #[.int .i64 d1, .int .i64 d2] 33)) := (Below.refl _ _).alloc (Nat.le_refl _) _
  have hs17 : (w16.alloc (.cells #[.int .i64 d1, .int .i64 d2] 33)).heap[w16.heap.size]? = some (.cells #[.int .i64 d1, .int .i64 d2] 33 (0, 0)) := heap_alloc_new _ _
  have S17 := Lib.hid (S16.out.below b17)
  have E17 := Lib.hid (And.intro ((b17.block _ (heap_lt E16.out.1)).trans E16.out.1) (And.intro (E16.out.2.below b17) hs17))
  generalize w16.alloc (.cells #[.int .i64 d1, .int .i64 d2] 33) = w17 at S17 E17 ⊢
  generalize w16.heap.size = sb at E17 ⊢
  clear b17 hs17
  obtain ⟨⟨a0, a1, a2, a3, a4, za⟩, ⟨b0, b1, b2, b3, b4, zb⟩, ⟨u0, u1, u2, zu⟩, ⟨i0, i1, i2, i3, zi⟩, c0, c1, c2, c3, zc⟩ := S17.out.cells
  go_wp2_with fail
  refine (C.out.ckc _ S17.out).mono ?_
  rintro e w18 ⟨rfl, bn⟩
  have S18 := Lib.hid (S17.out.below bn)
  have E18 := Lib.hid (And.intro ((bn.block _ (heap_lt E17.out.1)).trans E17.out.1) (And.intro (E17.out.2.1.below bn) ((bn.block _ (heap_lt E17.out.2.2)).trans E17.out.2.2)))
  clear bn a0 a1 a2 a3 a4 za b0 b1 b2 b3 b4 zb u0 u1 u2 zu i0 i1 i2 i3 zi c0 c1 c2 c3 zc
  go_upto_region 22 with fail
  have b19 : Below w18.heap.size w18 (w18.alloc (.cells #[.int .i64 0, .int .i64 0] 33)) := (Below.refl _ _).alloc (Nat.le_refl _) _
  have hw19 : (w18.alloc (.cells #[.int .i64 0, .int .i64 0] 33)).heap[w18.heap.size]? = some (.cells #[.int .i64 0, .int .i64 0] 33 (0, 0)) := heap_alloc_new _ _
  obtain ⟨wb, hwb⟩ : ∃ wb, wb = w18.heap.size := ⟨_, rfl⟩
  rw [← hwb] at hw19 ⊢
  generalize w18.alloc (.cells #[.int .i64 0, .int .i64 0] 33) = w19 at b19 hw19 ⊢
  have E19 := Lib.hid (And.intro hw19 (And.intro hwb b19))
  clear hw19 hwb b19
  obtain ⟨B0, hB0⟩ : ∃ B0 : Bool, B0 = (decide (cE = 0) && decide (ns.length = 0)) := ⟨_, rfl⟩
  obtain ⟨f0, hf0⟩ : ∃ f0 : Int, f0 = if B0 then 1 else cE := ⟨_, rfl⟩
  have F0 := Lib.hid (And.intro hB0 hf0)
  clear hB0 hf0
  go_cut [169] (fun b wx => b = .bool B0 ∧ w19 = wx)
  case first =>
    by_cases h0 : cE = 0
    · subst h0
      by_cases h1 : ns.length = 0
      · have h2 : ((ns.length : Int) == 0) = true := by simp [h1]
        have HF := Lib.hid h1
        clear h1
        go_wp2_with fail
        go_meet
        exact ⟨by rw [F0.out.1]; simp [HF.out], rfl⟩
      · have h2 : ((ns.length : Int) == 0) = false := beq_eq_false_iff_ne.2 (by omega)
        have HF := Lib.hid h1
        clear h1
        go_wp2_with fail
        go_meet
        exact ⟨by rw [F0.out.1, decide_eq_false HF.out]; simp, rfl⟩
    · have h1 : (cE == 0) = false := by simp [h0]
      have HF := Lib.hid h0
      clear h0
      go_wp2_with fail
      go_meet
      exact ⟨by rw [F0.out.1, decide_eq_false HF.out]; simp, rfl⟩
  case rest =>
  obtain ⟨rfl, rfl⟩ := hcut
  go_upto_if 169 with fail
  go_cut [22] (fun f wx => f = .int .i64 f0 ∧ w19 = wx)
  case first =>
    cases B0
    · go_wp2_with fail
      go_meet
      exact ⟨by rw [F0.out.2]; rfl, rfl⟩
    · go_wp2_with fail
      go_meet
      exact ⟨by rw [F0.out.2]; rfl, rfl⟩
  case rest =>
  obtain ⟨rfl, rfl⟩ := hcut
  apply_assumption
  refine bounds_t3 hl2 hcl hns E18.out.1 E18.out.2.1 E18.out.2.2 E19.out.1 E19.out.2.1 E19.out.2.2 F0.out.1 F0.out.2 S18.out C.out ?_
  intro _ _ _ h
  exact h

end Go.Proofs.YtbgnkljjgfcngaaGreat
/- polynyalaw08.RestrictBounds (printed by wip/tools/bnd.py) -/
namespace Go.Proofs.YtbgnkljjgfcngaaGreat
open Go Go.RowKit Sp
set_option linter.unusedSimpArgs false
set_option linter.unusedVariables false


set_option maxRecDepth 100000 in
set_option maxHeartbeats 4000000 in
theorem bounds_main (As : Option Addr) (cs : Nat) (p : Pol) (A : Option Addr) (ca : Nat) (l : List (Int × Int)) (v : Ves) (day : Int) (x : Ice) (a b c : Int) (Acl : Option Addr) (ccl : Nat) (cl : List Cel) (An : Option Addr) (cn : Nat) (ns : List Int) (w : World)
    (hp : PolV w As cs p) (hcs : As = none → p.steps.length = 0 ∧ cs = 0) (hr : Rd w 2 A l.length (spcs l)) (hrc : Rd w 8 Acl cl.length (cels cl)) (hcc : Acl = none → cl.length = 0 ∧ ccl = 0) (hrn : Rd w 1 An ns.length (ints ns))
    (hlong : longB p.steps.length l.length = false) (hcl : cl.length ≤ 100) (hns : ns.length ≤ 20) :
    Calls Tryz.prog 9 #[.agg #[.slice As p.steps.length cs, .int .i64 p.hold, .int .i64 p.calm, .int .i64 p.notice, .int .i64 p.grace], .slice A l.length ca, .agg #[.int .i64 v.cls, .int .i64 v.ton, .bool v.esc], .int .i64 day, .agg #[.int .i64 x.con, .int .i64 x.thk, .int .i64 x.rid, .int .i64 x.prs], .agg #[.int .i64 a, .int .i64 b, .int .i64 c, .slice Acl cl.length ccl], .slice An ns.length cn] w fun e w' => e = .returned (.bool true) ∧ Below w.heap.size w w' := by
  have hl1 : p.steps.length ≤ 20 ∧ l.length ≤ 420 := by simp [longB] at hlong; omega
  obtain ⟨hl1, hl2⟩ := hl1
  obtain ⟨W1, hW1⟩ : ∃ W, W = w.alloc (.cells #[.slice As p.steps.length cs, .int .i64 p.hold, .int .i64 p.calm, .int .i64 p.notice, .int .i64 p.grace] 25) := ⟨_, rfl⟩
  obtain ⟨W2, hW2⟩ : ∃ W, W = W1.alloc (.cells #[.int .i64 v.cls, .int .i64 v.ton, .bool v.esc] 29) := ⟨_, rfl⟩
  obtain ⟨W3, hW3⟩ : ∃ W, W = W2.alloc (.cells #[.int .i64 x.con, .int .i64 x.thk, .int .i64 x.rid, .int .i64 x.prs] 45) := ⟨_, rfl⟩
  obtain ⟨W, hW⟩ : ∃ W, W = W3.alloc (.cells #[.int .i64 a, .int .i64 b, .int .i64 c, .slice Acl cl.length ccl] 49) := ⟨_, rfl⟩
  obtain ⟨ob, hob⟩ : ∃ ob, ob = w.heap.size := ⟨_, rfl⟩
  obtain ⟨vb, hvb⟩ : ∃ vb, vb = w.heap.size + 1 := ⟨_, rfl⟩
  obtain ⟨ib, hib⟩ : ∃ ib, ib = w.heap.size + 1 + 1 := ⟨_, rfl⟩
  obtain ⟨cb, hcb⟩ : ∃ cb, cb = w.heap.size + 1 + 1 + 1 := ⟨_, rfl⟩
  have z1 : W1.heap.size = w.heap.size + 1 := by rw [hW1]; simp
  have z2 : W2.heap.size = w.heap.size + 1 + 1 := by rw [hW2]; simp [z1]
  have z3 : W3.heap.size = w.heap.size + 1 + 1 + 1 := by rw [hW3]; simp [z2]
  have hoh : W.heap[ob]? = some (.cells #[.slice As p.steps.length cs, .int .i64 p.hold, .int .i64 p.calm, .int .i64 p.notice, .int .i64 p.grace] 25 (0, 0)) := by rw [hW, hW3, hW2, hW1, hob]; exact heap_alloc' (heap_alloc' (heap_alloc' (heap_alloc_new _ _) _) _) _
  have hvh : W.heap[vb]? = some (.cells #[.int .i64 v.cls, .int .i64 v.ton, .bool v.esc] 29 (0, 0)) := by rw [hW, hW3, hW2, hvb, ← z1]; exact heap_alloc' (heap_alloc' (heap_alloc_new _ _) _) _
  have hih : W.heap[ib]? = some (.cells #[.int .i64 x.con, .int .i64 x.thk, .int .i64 x.rid, .int .i64 x.prs] 45 (0, 0)) := by rw [hW, hW3, hib, ← z2]; exact heap_alloc' (heap_alloc_new _ _) _
  have hch : W.heap[cb]? = some (.cells #[.int .i64 a, .int .i64 b, .int .i64 c, .slice Acl cl.length ccl] 49 (0, 0)) := by rw [hW, hcb, ← z3]; exact heap_alloc_new _ _
  have bW : Below w.heap.size w W := by rw [hW, hW3, hW2, hW1]; exact ((((Below.refl _ _).alloc (Nat.le_refl _) _).alloc (by simp) _).alloc (by simp; omega) _).alloc (by simp; omega) _
  have hpW : PolV W As cs p := ⟨hp.1, hp.2.1, hp.2.2.below bW⟩
  have hrW := hr.below bW
  have hrcW := hrc.below bW
  have hrnW := hrn.below bW
  have o0 := (cell_of_heap hoh 0).trans rfl
  have o1 := (cell_of_heap hoh 1).trans rfl
  have o2 := (cell_of_heap hoh 2).trans rfl
  have o3 := (cell_of_heap hoh 3).trans rfl
  have o4 := (cell_of_heap hoh 4).trans rfl
  have zo := heap_lt hoh
  have k1 := long_any (.int .i64 p.hold) (.int .i64 p.calm) (.int .i64 p.notice) (.int .i64 p.grace) As p.steps.length cs l.length W
  rw [hlong] at k1
  have HP := Lib.hid (And.intro bW (And.intro hoh (And.intro hvh (And.intro hih (And.intro hch (And.intro hpW (And.intro hrW (And.intro hrcW (And.intro hrnW (And.intro k1 (And.intro hcs hcc)))))))))))
  clear hp hr hrc hrn bW hoh hvh hih hch hpW hrW hrcW hrnW k1 hlong hcs hcc z1 z2 z3
  go_enter Tryz.func9, Tryz.ntmps9
  go_upto_region 1 with fail
  rw [← hcb, ← hib, ← hvb, ← hob, ← hW1, ← hW2, ← hW3, ← hW]
  clear hW hob hW1 hvb hW2 hW3 hib hcb
  go_wp2_with fail
  refine HP.out.2.2.2.2.2.2.2.2.2.1.mono ?_
  rintro e w1 ⟨rfl, b1⟩
  have hoh := (b1.block _ (heap_lt HP.out.2.1)).trans HP.out.2.1
  have hvh := (b1.block _ (heap_lt HP.out.2.2.1)).trans HP.out.2.2.1
  have hih := (b1.block _ (heap_lt HP.out.2.2.2.1)).trans HP.out.2.2.2.1
  have hch := (b1.block _ (heap_lt HP.out.2.2.2.2.1)).trans HP.out.2.2.2.2.1
  have H1 := Lib.hid (And.intro (HP.out.1.trans (b1.mono HP.out.1.size)) (And.intro hoh (And.intro hvh (And.intro (show PolV w1 As cs p from ⟨HP.out.2.2.2.2.2.1.1, HP.out.2.2.2.2.2.1.2.1, HP.out.2.2.2.2.2.1.2.2.below b1⟩) (And.intro hih (And.intro hch (And.intro (HP.out.2.2.2.2.2.2.1.below b1) (And.intro (HP.out.2.2.2.2.2.2.2.1.below b1) (HP.out.2.2.2.2.2.2.2.2.1.below b1)))))))))
  have m1 : ¬ (100 : Int) < (cl.length : Int) := by omega
  have m2 : ¬ (20 : Int) < (ns.length : Int) := by omega
  have m3 : ¬ 100 < cl.length := by omega
  have m4 : ¬ 20 < ns.length := by omega
  have c3 := (cell_of_heap hch 3).trans rfl
  have zc := heap_lt hch
  clear o0 o1 o2 o3 o4 zo b1 hoh hvh hih hch
  go_upto_region 3 with fail
  clear c3 zc
  have o0 := (cell_of_heap H1.out.2.1 0).trans rfl
  have o1 := (cell_of_heap H1.out.2.1 1).trans rfl
  have o2 := (cell_of_heap H1.out.2.1 2).trans rfl
  have o3 := (cell_of_heap H1.out.2.1 3).trans rfl
  have o4 := (cell_of_heap H1.out.2.1 4).trans rfl
  have zo := heap_lt H1.out.2.1
  go_cut [15, 16] (fun x y wx => ∃ b13 b14 Ap cp, x = .pointer (some ⟨b13, 0, none⟩) ∧ y = .pointer (some ⟨b14, 0, none⟩) ∧ QR w1 wx b13 b14 As cs p Ap cp)
  case first =>
    refine wp_region_steps (σ := RgS) (by kernel_rfl) (by kernel_rfl) (fun sg jx vx _ => BnV As cs p sg jx vx) (fun sg ly wx => QW 2 3 4 5 6 w1 As cs p sg ly wx) ⟨0, 0, 0, none⟩ ?_ ?_ ?_
    · exact ⟨(Below.refl _ _).drew, (fun h => by cases h), (fun h => by cases h), (fun h => by cases h), (fun h => by cases h)⟩
    · simp only [AllFrom, Nat.zero_add, Nat.reduceAdd]
      refine ⟨?_, ?_, ?_, ?_, ?_, ?_, ?_, trivial⟩
      · refine step_pure fun sg ly a wr hl hd hW hF => ?_
        have et7 := hF.old 7 (by kernel_rfl)
        simp [Act.eval] at et7
        have hh := (hW.bel.block _ zo).trans H1.out.2.1
        have o0 := (cell_of_heap hh 0).trans rfl
        have o1 := (cell_of_heap hh 1).trans rfl
        have o2 := (cell_of_heap hh 2).trans rfl
        have o3 := (cell_of_heap hh 3).trans rfl
        have o4 := (cell_of_heap hh 4).trans rfl
        exact ⟨hW.other _ (by decide), _, by go_simp, rfl⟩
      · refine step_pure fun sg ly a wr hl hd hW hF => ?_
        have et7 := hF.old 7 (by kernel_rfl)
        simp [Act.eval] at et7
        have hh := (hW.bel.block _ zo).trans H1.out.2.1
        have o0 := (cell_of_heap hh 0).trans rfl
        have o1 := (cell_of_heap hh 1).trans rfl
        have o2 := (cell_of_heap hh 2).trans rfl
        have o3 := (cell_of_heap hh 3).trans rfl
        have o4 := (cell_of_heap hh 4).trans rfl
        exact ⟨hW.other _ (by decide), _, by go_simp, rfl⟩
      · refine step_call fun sg ly a wr hl hd hW hF => ?_
        simp [Region.binds] at hd
        have et52 := hF.new 1 52 (by simp [hd]) rfl
        simp [BnV, Act.eval] at et52
        have n6 := hF.notYet 2 6 hl (by kernel_rfl)
        refine ⟨15, #[.agg #[.slice As p.steps.length cs, .int .i64 p.hold, .int .i64 p.calm, .int .i64 p.notice, .int .i64 p.grace]], by go_simp, ?_⟩
        refine (policy_any As cs p wr ⟨H1.out.2.2.2.1.1, H1.out.2.2.2.1.2.1, H1.out.2.2.2.1.2.2.below hW.bel⟩ (by omega)).mono ?_
        rintro e w2 ⟨Ap, cp, qp, rfl, ow, nw, bw⟩
        refine ⟨_, { sg with Ap := Ap, cp := cp }, rfl, hW.call (by decide) n6 (n := 0) bw ow nw, rfl, ?_⟩
        intro i u hi h
        have i2 : i ≠ 2 := by rintro rfl; rw [hl] at hi; cases hi
        unfold BnV at h ⊢
        split at h <;> first | exact h | exact absurd rfl i2
      · refine step_run fun sg ly a wr hl hd hW hF => ?_
        have n5 := hF.notYet 3 5 hl (by kernel_rfl)
        refine ⟨_, wr.alloc (.cells qrZpol 25), { sg with b13 := wr.heap.size }, by go_simp, hW.allocA (by decide) n5, rfl, ?_⟩
        intro i u hi h
        have i2 : i ≠ 3 := by rintro rfl; rw [hl] at hi; cases hi
        unfold BnV at h ⊢
        split at h <;> first | exact h | exact absurd rfl i2
      · refine step_run fun sg ly a wr hl hd hW hF => ?_
        have n5 := hF.notYet 4 6 hl (by kernel_rfl)
        refine ⟨_, wr.alloc (.cells qrZpol 65), { sg with b14 := wr.heap.size }, by go_simp, hW.allocB (by decide) n5, rfl, ?_⟩
        intro i u hi h
        have i2 : i ≠ 4 := by rintro rfl; rw [hl] at hi; cases hi
        unfold BnV at h ⊢
        split at h <;> first | exact h | exact absurd rfl i2
      · refine step_store rfl fun sg ly a wr hl hd hW hF => ?_
        simp [Region.binds] at hd
        have et51 := hF.new 0 51 (by simp [hd]) rfl
        simp [BnV, Act.eval] at et51
        have et15 := hF.new 3 15 (by simp [hd]) rfl
        simp [BnV, Act.eval] at et15
        have y3 : ly 3 = true := by simp [hd]
        have hq := (hW.q3 y3).2
        rw [hl] at hq
        obtain ⟨⟨c0, c1, c2, c3, c4⟩, f0, f1, f2, f3, f4⟩ := qrZero hq
        have hn := hW.storeA (by decide) y3 hl
        exact ⟨_, sg, .skip, by go_simp, .inl rfl, hn, fun _ _ _ h => h⟩
      · refine step_store rfl fun sg ly a wr hl hd hW hF => ?_
        simp [Region.binds] at hd
        have et53 := hF.new 2 53 (by simp [hd]) rfl
        simp [BnV, Act.eval] at et53
        have et16 := hF.new 4 16 (by simp [hd]) rfl
        simp [BnV, Act.eval] at et16
        have y4 : ly 4 = true := by simp [hd]
        have hq := (hW.q4 y4).2
        rw [hl] at hq
        obtain ⟨⟨c0, c1, c2, c3, c4⟩, f0, f1, f2, f3, f4⟩ := qrZero hq
        have hn := hW.storeB (by decide) y4 hl
        exact ⟨_, sg, .skip, by go_simp, .inl rfl, hn, fun _ _ _ h => h⟩
    intro sg a w5 hW hF
    have e13 := hF.new 3 15 (by decide) rfl
    have e14 := hF.new 4 16 (by decide) rfl
    obtain ⟨f, hf, rfl⟩ := hF.lit
    rw [← hf] at e13 e14
    simp only [BnV] at e13 e14
    have HQ := Lib.hid (hW.fin rfl rfl rfl rfl rfl)
    clear hf hF hW
    simp only [List.filterMap, List.foldl, List.setIfInBounds_toArray, List.set_cons_succ, List.set_cons_zero, e13, e14]
    clear e13 e14
    go_wp2_with fail
    go_meet
    exact ⟨_, _, _, _, rfl, rfl, HQ.out⟩
  case rest =>
    obtain ⟨b13, b14, Ap, cp, rfl, rfl, hq⟩ := hcut
    clear o0 o1 o2 o3 o4 zo
    have hob := (hq.bel.block _ (heap_lt H1.out.2.1)).trans H1.out.2.1
    have hvb := (hq.bel.block _ (heap_lt H1.out.2.2.1)).trans H1.out.2.2.1
    have hib := (hq.bel.block _ (heap_lt H1.out.2.2.2.2.1)).trans H1.out.2.2.2.2.1
    have hcb := (hq.bel.block _ (heap_lt H1.out.2.2.2.2.2.1)).trans H1.out.2.2.2.2.2.1
    have o0 := (cell_of_heap hob 0).trans rfl
    have zo := heap_lt hob
    have pvc : PolV wc As cs p := ⟨H1.out.2.2.2.1.1, H1.out.2.2.2.1.2.1, H1.out.2.2.2.1.2.2.below hq.bel⟩
    have HQ := Lib.hid (And.intro hq (And.intro hvb (And.intro pvc (And.intro hib (And.intro hcb (And.intro (H1.out.2.2.2.2.2.2.1.below hq.bel) (And.intro (H1.out.2.2.2.2.2.2.2.1.below hq.bel) (H1.out.2.2.2.2.2.2.2.2.below hq.bel))))))))
    clear hob hvb hib hcb pvc hq
    go_wp2_with fail
    refine (cloneStp_any As p.steps.length cs (stcs p.steps) wc HQ.out.2.2.1.2.2 (stcs_one _) HP.out.2.2.2.2.2.2.2.2.2.2.1 (by omega)).mono ?_
    rintro e w2 ⟨Ac, cc, qc, rfl, oc, nc, bc⟩
    have h13 := (bc.block _ (heap_lt HQ.out.1.h13)).trans HQ.out.1.h13
    have h14 := (bc.block _ (heap_lt HQ.out.1.h14)).trans HQ.out.1.h14
    have hv2 := (bc.block _ (heap_lt HQ.out.2.1)).trans HQ.out.2.1
    have hi2 := (bc.block _ (heap_lt HQ.out.2.2.2.1)).trans HQ.out.2.2.2.1
    have hc2 := (bc.block _ (heap_lt HQ.out.2.2.2.2.1)).trans HQ.out.2.2.2.2.1
    have n13 := HQ.out.1.n13
    have vbn : vb ≠ b13 := by have := heap_lt H1.out.2.2.1; omega
    have ibn : ib ≠ b13 := by have := heap_lt H1.out.2.2.2.2.1; omega
    have cbn : cb ≠ b13 := by have := heap_lt H1.out.2.2.2.2.2.1; omega
    have hw3 : (w2.setCell ⟨b13, 0, none⟩ (.slice Ac p.steps.length cc)).heap[b13]? = some (.cells #[.slice Ac p.steps.length cc, .int .i64 p.hold, .int .i64 p.calm, .int .i64 p.notice, .int .i64 p.grace] 25 (0, 0)) := heap_set h13 0 _
    have K3 : Keep [b13] w2 (w2.setCell ⟨b13, 0, none⟩ (.slice Ac p.steps.length cc)) := (Keep.refl _ _).setCell (.inl (by simp)) _
    have h14' := (K3.block _ (heap_lt h14) (by simpa using n13.2.2.symm)).trans h14
    have hv2' := (K3.block _ (heap_lt hv2) (by simpa using vbn)).trans hv2
    have hi2' := (K3.block _ (heap_lt hi2) (by simpa using ibn)).trans hi2
    have hc2' := (K3.block _ (heap_lt hc2) (by simpa using cbn)).trans hc2
    have c13 := (cell_of_heap h13 0).trans rfl
    have f13 := frozen_of_heap h13 0
    have z13 := heap_lt h13
    have old : ∀ {size n : Nat} {B : Option Addr} {xs : List Value}, Rd w1 size B n xs → Rd w2 size B n xs → Rd (w2.setCell ⟨b13, 0, none⟩ (.slice Ac p.steps.length cc)) size B n xs := fun r1 r2 => by
      refine ⟨r2.1, fun hn => ?_⟩
      obtain ⟨b, off, e, hb, hc⟩ := r2.2 hn
      obtain ⟨b', off', e', hb', _⟩ := r1.2 hn
      rw [e] at e'; injection e' with e'; injection e' with e1
      exact ⟨b, off, e, by have := K3.size; omega, fun j u hu => K3.cell (hc j u hu) (by simp; omega)⟩
    have ra3 := old H1.out.2.2.2.2.2.2.1 (HQ.out.2.2.2.2.2.1.below bc)
    have rc3 := old H1.out.2.2.2.2.2.2.2.1 (HQ.out.2.2.2.2.2.2.1.below bc)
    have rn3 := old H1.out.2.2.2.2.2.2.2.2 (HQ.out.2.2.2.2.2.2.2.below bc)
    have pc3 : PolV (w2.setCell ⟨b13, 0, none⟩ (.slice Ac p.steps.length cc)) Ac cc p := ⟨oc.ge, oc.cap, (oc.setCell (fun hm => by have := nc _ hm; have := heap_lt HQ.out.1.h13; simp only at *; omega) _).rd⟩
    have pp3 : PolV (w2.setCell ⟨b13, 0, none⟩ (.slice Ac p.steps.length cc)) Ap cp p := ⟨HQ.out.1.ge.1, HQ.out.1.ge.2, by
      have r2 := HQ.out.1.rd.below bc
      by_cases hn : p.steps.length = 0
      · exact ⟨r2.1, fun h => by omega⟩
      · exact K3.rd r2 (fun g o e => by simpa using HQ.out.1.off g o e hn)⟩
    have bel3 : Below w.heap.size w (w2.setCell ⟨b13, 0, none⟩ (.slice Ac p.steps.length cc)) := (H1.out.1.trans ((HQ.out.1.bel.trans (bc.mono HQ.out.1.bel.size)).mono H1.out.1.size)).setCell (by have := H1.out.1.size; simp; omega) _
    have H3 := Lib.hid (And.intro hw3 (And.intro h14' (And.intro hv2' (And.intro hi2' (And.intro hc2' (And.intro pc3 (And.intro pp3 (And.intro ra3 (And.intro rc3 (And.intro rn3 bel3))))))))))
    clear hw3 h14' hv2' hi2' hc2' pc3 pp3 ra3 rc3 rn3 bel3 old oc nc bc h14 hv2 hi2 hc2 n13 vbn ibn cbn h13 o0 zo K3
    go_upto_region 5 with fail
    generalize w2.setCell ⟨b13, 0, none⟩ (.slice Ac p.steps.length cc) = w3 at H3 ⊢
    clear c13 f13 z13
    go_wp2_with fail
    refine (copySpans_any A ca l w3 H3.out.2.2.2.2.2.2.2.1 (by omega)).mono ?_
    rintro e w4 ⟨Ao, co, rfl, ro, hco1, hco2, b4⟩
    have H4 := Lib.hid (And.intro ro b4)
    clear ro hco1 hco2 b4
    go_wp2_with fail
    refine (copyInts_any An cn ns w4 (H3.out.2.2.2.2.2.2.2.2.2.1.below H4.out.2) (by omega)).mono ?_
    rintro e w5 ⟨Ak, ck, rfl, rk, hck1, hck2, b5⟩
    have b35 : Below w3.heap.size w3 w5 := H4.out.2.trans (b5.mono H4.out.2.size)
    have sq : BQ w w5 b13 b14 vb ib cb p v x a b c l cl ns Ac cc Ap cp Ao A Ak An Acl ccl := by
      obtain ⟨g1, g2, g3, gi, gc, g4, g5, g6, g7, g8, g9⟩ := H3.out
      exact ⟨(b35.block _ (heap_lt g1)).trans g1, (b35.block _ (heap_lt g2)).trans g2, (b35.block _ (heap_lt g3)).trans g3, (b35.block _ (heap_lt gi)).trans gi, (b35.block _ (heap_lt gc)).trans gc, ⟨g4.1, g4.2.1, g4.2.2.below b35⟩, ⟨g5.1, g5.2.1, g5.2.2.below b35⟩, H4.out.1.below b5, g6.below b35, rk, g8.below b35, g7.below b35, g9.trans (b35.mono g9.size)⟩
    have hsc := bc_all w b13 b14 vb ib cb p v day x a b c l cl ns Ac cc Ap cp Ao co A ca Ak ck An cn Acl ccl (by omega) (by omega) hcl hns
    generalize bndL p l = LB, spnE p l = bE, sureB p l v day = sB, perhB p l v day = pB, sureE p l v day = sE, gradeN x = gN, iceE x = iE, distE a b c cl ns = dE, (distV a b c cl ns).1 = d1, (distV a b c cl ns).2 = d2, chartE a b c cl = cE at hsc
    have S5 := Lib.hid sq
    have C := Lib.hid hsc
    clear rk hck1 hck2 b5 b35 sq hsc m1 m2 m3 m4
    obtain ⟨⟨a0, a1, a2, a3, a4, za⟩, ⟨b0, b1, b2, b3, b4, zb⟩, ⟨u0, u1, u2, zu⟩, ⟨i0, i1, i2, i3, zi⟩, c0, c1, c2, c3, zc⟩ := S5.out.cells
    go_wp2_with fail
    refine (C.out.bnd _ S5.out).mono ?_
    rintro e w6 ⟨D1, e1, rfl, r1, bn⟩
    have S6 := Lib.hid (S5.out.below bn)
    have R1 := Lib.hid r1
    clear r1
    clear a0 a1 a2 a3 a4 za b0 b1 b2 b3 b4 zb u0 u1 u2 zu i0 i1 i2 i3 zi c0 c1 c2 c3 zc bn
    obtain ⟨⟨a0, a1, a2, a3, a4, za⟩, ⟨b0, b1, b2, b3, b4, zb⟩, ⟨u0, u1, u2, zu⟩, ⟨i0, i1, i2, i3, zi⟩, c0, c1, c2, c3, zc⟩ := S6.out.cells
    go_wp2_with fail
    refine (C.out.rbnd _ S6.out).mono ?_
    rintro e w7 ⟨D2, e2, rfl, r2, bn⟩
    have S7 := Lib.hid (S6.out.below bn)
    have R12 := Lib.hid (And.intro (R1.out.below bn) r2)
    clear r2 R1
    clear a0 a1 a2 a3 a4 za b0 b1 b2 b3 b4 zb u0 u1 u2 zu i0 i1 i2 i3 zi c0 c1 c2 c3 zc bn
    obtain ⟨⟨a0, a1, a2, a3, a4, za⟩, ⟨b0, b1, b2, b3, b4, zb⟩, ⟨u0, u1, u2, zu⟩, ⟨i0, i1, i2, i3, zi⟩, c0, c1, c2, c3, zc⟩ := S7.out.cells
    go_wp2_with fail
    refine (eqSpn_same D1 e1 LB D2 e2 w7 R12.out.1 R12.out.2 C.out.nB).mono ?_
    rintro e w8 ⟨rfl, bn⟩
    have S8 := Lib.hid (S7.out.below bn)
    clear a0 a1 a2 a3 a4 za b0 b1 b2 b3 b4 zb u0 u1 u2 zu i0 i1 i2 i3 zi c0 c1 c2 c3 zc bn R12
    obtain ⟨⟨a0, a1, a2, a3, a4, za⟩, ⟨b0, b1, b2, b3, b4, zb⟩, ⟨u0, u1, u2, zu⟩, ⟨i0, i1, i2, i3, zi⟩, c0, c1, c2, c3, zc⟩ := S8.out.cells
    go_wp2_with fail
    refine (C.out.sur _ S8.out).mono ?_
    rintro e w9 ⟨rfl, bn⟩
    have S9 := Lib.hid (S8.out.below bn)
    clear a0 a1 a2 a3 a4 za b0 b1 b2 b3 b4 zb u0 u1 u2 zu i0 i1 i2 i3 zi c0 c1 c2 c3 zc bn
    obtain ⟨⟨a0, a1, a2, a3, a4, za⟩, ⟨b0, b1, b2, b3, b4, zb⟩, ⟨u0, u1, u2, zu⟩, ⟨i0, i1, i2, i3, zi⟩, c0, c1, c2, c3, zc⟩ := S9.out.cells
    go_wp2_with fail
    refine (C.out.rsur _ S9.out).mono ?_
    rintro e w10 ⟨rfl, bn⟩
    have S10 := Lib.hid (S9.out.below bn)
    clear a0 a1 a2 a3 a4 za b0 b1 b2 b3 b4 zb u0 u1 u2 zu i0 i1 i2 i3 zi c0 c1 c2 c3 zc bn
    obtain ⟨⟨a0, a1, a2, a3, a4, za⟩, ⟨b0, b1, b2, b3, b4, zb⟩, ⟨u0, u1, u2, zu⟩, ⟨i0, i1, i2, i3, zi⟩, c0, c1, c2, c3, zc⟩ := S10.out.cells
    go_wp2_with fail
    refine (C.out.grd _).mono ?_
    rintro e w11 ⟨rfl, bn⟩
    have S11 := Lib.hid (S10.out.below bn)
    clear a0 a1 a2 a3 a4 za b0 b1 b2 b3 b4 zb u0 u1 u2 zu i0 i1 i2 i3 zi c0 c1 c2 c3 zc bn
    obtain ⟨⟨a0, a1, a2, a3, a4, za⟩, ⟨b0, b1, b2, b3, b4, zb⟩, ⟨u0, u1, u2, zu⟩, ⟨i0, i1, i2, i3, zi⟩, c0, c1, c2, c3, zc⟩ := S11.out.cells
    go_wp2_with fail
    refine (C.out.cki _).mono ?_
    rintro e w12 ⟨rfl, bn⟩
    have S12 := Lib.hid (S11.out.below bn)
    clear a0 a1 a2 a3 a4 za b0 b1 b2 b3 b4 zb u0 u1 u2 zu i0 i1 i2 i3 zi c0 c1 c2 c3 zc bn
    obtain ⟨⟨a0, a1, a2, a3, a4, za⟩, ⟨b0, b1, b2, b3, b4, zb⟩, ⟨u0, u1, u2, zu⟩, ⟨i0, i1, i2, i3, zi⟩, c0, c1, c2, c3, zc⟩ := S12.out.cells
    go_upto_region 16 with fail
    go_cut [148] from 121 to 148 (fun b wx => b = .bool false ∧ w12 = wx)
    case first =>
      by_cases h0 : iE = 0
      · subst h0
        go_wp2_with (go_at_call 59; refine (C.out.rgr rfl _).mono ?_; rintro e w' ⟨rfl, rfl⟩)
        go_meet
        exact ⟨by simp, rfl⟩
      · have h1 : (iE == 0) = false := by simp [h0]
        have h2 : (iE != 0) = true := by simp [h0]
        have h3 : (gN != 0) = false := by simp [C.out.gno h0]
        clear h0
        go_wp2_with fail
        go_meet
        exact ⟨by simp, rfl⟩
    case rest =>
    obtain ⟨rfl, rfl⟩ := hcut
    go_upto_if 148 with fail
    go_cut [14] (fun r wx => r = .bool false ∧ w12 = wx)
    case first =>
      go_wp2_with fail
      go_meet
      exact ⟨rfl, rfl⟩
    case rest =>
    obtain ⟨rfl, rfl⟩ := hcut
    apply_assumption
    refine bounds_t2 HP.out.2.2.2.2.2.2.2.2.2.2.2 (by omega) hl2 hcl hns S12.out C.out ?_
    intro _ _ _ h
    exact h
end Go.Proofs.YtbgnkljjgfcngaaGreat
/- RestrictBounds: all inputs (printed by wip/tools/bnd.py) -/
namespace Go.Proofs.YtbgnkljjgfcngaaGreat
open Go Go.RowKit Sp
set_option linter.unusedSimpArgs false
set_option linter.unusedVariables false

set_option maxRecDepth 100000 in
set_option maxHeartbeats 4000000 in
theorem bounds_long (As : Option Addr) (cs : Nat) (p : Pol) (A : Option Addr) (ca : Nat) (l : List (Int × Int)) (v : Ves) (day : Int) (x : Ice) (a b c : Int) (Acl : Option Addr) (ccl : Nat) (cl : List Cel) (An : Option Addr) (cn : Nat) (ns : List Int) (w : World) (h : longB p.steps.length l.length = true ∨ 100 < cl.length ∨ 20 < ns.length) :
    Calls Tryz.prog 9 #[.agg #[.slice As p.steps.length cs, .int .i64 p.hold, .int .i64 p.calm, .int .i64 p.notice, .int .i64 p.grace], .slice A l.length ca, .agg #[.int .i64 v.cls, .int .i64 v.ton, .bool v.esc], .int .i64 day, .agg #[.int .i64 x.con, .int .i64 x.thk, .int .i64 x.rid, .int .i64 x.prs], .agg #[.int .i64 a, .int .i64 b, .int .i64 c, .slice Acl cl.length ccl], .slice An ns.length cn] w fun e w' => e = .returned (.bool true) ∧ Below w.heap.size w w' := by
  obtain ⟨W1, hW1⟩ : ∃ W, W = w.alloc (.cells #[.slice As p.steps.length cs, .int .i64 p.hold, .int .i64 p.calm, .int .i64 p.notice, .int .i64 p.grace] 25) := ⟨_, rfl⟩
  obtain ⟨W2, hW2⟩ : ∃ W, W = W1.alloc (.cells #[.int .i64 v.cls, .int .i64 v.ton, .bool v.esc] 29) := ⟨_, rfl⟩
  obtain ⟨W3, hW3⟩ : ∃ W, W = W2.alloc (.cells #[.int .i64 x.con, .int .i64 x.thk, .int .i64 x.rid, .int .i64 x.prs] 45) := ⟨_, rfl⟩
  obtain ⟨W, hW⟩ : ∃ W, W = W3.alloc (.cells #[.int .i64 a, .int .i64 b, .int .i64 c, .slice Acl cl.length ccl] 49) := ⟨_, rfl⟩
  obtain ⟨ob, hob⟩ : ∃ ob, ob = w.heap.size := ⟨_, rfl⟩
  obtain ⟨vb, hvb⟩ : ∃ vb, vb = w.heap.size + 1 := ⟨_, rfl⟩
  obtain ⟨ib, hib⟩ : ∃ ib, ib = w.heap.size + 1 + 1 := ⟨_, rfl⟩
  obtain ⟨cb, hcb⟩ : ∃ cb, cb = w.heap.size + 1 + 1 + 1 := ⟨_, rfl⟩
  have z1 : W1.heap.size = w.heap.size + 1 := by rw [hW1]; simp
  have z2 : W2.heap.size = w.heap.size + 1 + 1 := by rw [hW2]; simp [z1]
  have z3 : W3.heap.size = w.heap.size + 1 + 1 + 1 := by rw [hW3]; simp [z2]
  have hoh : W.heap[ob]? = some (.cells #[.slice As p.steps.length cs, .int .i64 p.hold, .int .i64 p.calm, .int .i64 p.notice, .int .i64 p.grace] 25 (0, 0)) := by rw [hW, hW3, hW2, hW1, hob]; exact heap_alloc' (heap_alloc' (heap_alloc' (heap_alloc_new _ _) _) _) _
  have hvh : W.heap[vb]? = some (.cells #[.int .i64 v.cls, .int .i64 v.ton, .bool v.esc] 29 (0, 0)) := by rw [hW, hW3, hW2, hvb, ← z1]; exact heap_alloc' (heap_alloc' (heap_alloc_new _ _) _) _
  have hih : W.heap[ib]? = some (.cells #[.int .i64 x.con, .int .i64 x.thk, .int .i64 x.rid, .int .i64 x.prs] 45 (0, 0)) := by rw [hW, hW3, hib, ← z2]; exact heap_alloc' (heap_alloc_new _ _) _
  have hch : W.heap[cb]? = some (.cells #[.int .i64 a, .int .i64 b, .int .i64 c, .slice Acl cl.length ccl] 49 (0, 0)) := by rw [hW, hcb, ← z3]; exact heap_alloc_new _ _
  have bW : Below w.heap.size w W := by rw [hW, hW3, hW2, hW1]; exact ((((Below.refl _ _).alloc (Nat.le_refl _) _).alloc (by simp) _).alloc (by simp; omega) _).alloc (by simp; omega) _
  obtain ⟨lb, hlb⟩ : ∃ b, b = longB p.steps.length l.length := ⟨_, rfl⟩
  have k1 := long_any (.int .i64 p.hold) (.int .i64 p.calm) (.int .i64 p.notice) (.int .i64 p.grace) As p.steps.length cs l.length W
  rw [← hlb] at k1 h
  have o0 := (cell_of_heap hoh 0).trans rfl
  have o1 := (cell_of_heap hoh 1).trans rfl
  have o2 := (cell_of_heap hoh 2).trans rfl
  have o3 := (cell_of_heap hoh 3).trans rfl
  have o4 := (cell_of_heap hoh 4).trans rfl
  have zo := heap_lt hoh
  have HP := Lib.hid (And.intro bW (And.intro k1 hch))
  clear bW hoh hvh hih hch k1 hlb z1 z2 z3
  cases lb
  · by_cases h1 : 100 < cl.length
    · have m1 : (100 : Int) < (cl.length : Int) := by omega
      clear h
      go_enter Tryz.func9, Tryz.ntmps9
      go_upto_region 1 with fail
      rw [← hcb, ← hib, ← hvb, ← hob, ← hW1, ← hW2, ← hW3, ← hW]
      clear hW hob hW1 hvb hW2 hW3 hib hcb
      go_wp2_with fail
      refine HP.out.2.1.mono ?_
      rintro e w1 ⟨rfl, b1⟩
      have H1 := Lib.hid (HP.out.1.trans (b1.mono HP.out.1.size))
      have hch := (b1.block _ (heap_lt HP.out.2.2)).trans HP.out.2.2
      have c3 := (cell_of_heap hch 3).trans rfl
      have zc := heap_lt hch
      clear b1 o0 o1 o2 o3 o4 zo hch
      go_wp2_with fail
      refine (awake_any _).mono ?_
      rintro e wl ⟨rfl, bn⟩
      have BL := Lib.hid (H1.out.trans (bn.mono H1.out.size))
      clear bn
      go_wp2_with fail
      go_ret
      exact ⟨rfl, BL.out⟩
    · have m1 : ¬ (100 : Int) < (cl.length : Int) := by omega
      have m2 : (20 : Int) < (ns.length : Int) := by rcases h with h | h | h; cases h; omega; omega
      have m3 : 20 < ns.length := by omega
      clear h
      go_enter Tryz.func9, Tryz.ntmps9
      go_upto_region 1 with fail
      rw [← hcb, ← hib, ← hvb, ← hob, ← hW1, ← hW2, ← hW3, ← hW]
      clear hW hob hW1 hvb hW2 hW3 hib hcb
      go_wp2_with fail
      refine HP.out.2.1.mono ?_
      rintro e w1 ⟨rfl, b1⟩
      have H1 := Lib.hid (HP.out.1.trans (b1.mono HP.out.1.size))
      have hch := (b1.block _ (heap_lt HP.out.2.2)).trans HP.out.2.2
      have c3 := (cell_of_heap hch 3).trans rfl
      have zc := heap_lt hch
      clear b1 o0 o1 o2 o3 o4 zo hch
      go_wp2_with fail
      refine (awake_any _).mono ?_
      rintro e wl ⟨rfl, bn⟩
      have BL := Lib.hid (H1.out.trans (bn.mono H1.out.size))
      clear bn
      go_wp2_with fail
      go_ret
      exact ⟨rfl, BL.out⟩
  · clear h
    go_enter Tryz.func9, Tryz.ntmps9
    go_upto_region 1 with fail
    rw [← hcb, ← hib, ← hvb, ← hob, ← hW1, ← hW2, ← hW3, ← hW]
    clear hW hob hW1 hvb hW2 hW3 hib hcb
    go_wp2_with fail
    refine HP.out.2.1.mono ?_
    rintro e w1 ⟨rfl, b1⟩
    have H1 := Lib.hid (HP.out.1.trans (b1.mono HP.out.1.size))
    have hch := (b1.block _ (heap_lt HP.out.2.2)).trans HP.out.2.2
    have c3 := (cell_of_heap hch 3).trans rfl
    have zc := heap_lt hch
    clear b1 o0 o1 o2 o3 o4 zo hch
    go_wp2_with fail
    refine (awake_any _).mono ?_
    rintro e wl ⟨rfl, bn⟩
    have BL := Lib.hid (H1.out.trans (bn.mono H1.out.size))
    clear bn
    go_wp2_with fail
    go_ret
    exact ⟨rfl, BL.out⟩

theorem bounds_all (As : Option Addr) (cs : Nat) (p : Pol) (A : Option Addr) (ca : Nat) (l : List (Int × Int)) (v : Ves) (day : Int) (x : Ice) (a b c : Int) (Acl : Option Addr) (ccl : Nat) (cl : List Cel) (An : Option Addr) (cn : Nat) (ns : List Int) (w : World)
    (hp : PolV w As cs p) (hcs : As = none → p.steps.length = 0 ∧ cs = 0) (hr : Rd w 2 A l.length (spcs l)) (hrc : Rd w 8 Acl cl.length (cels cl)) (hcc : Acl = none → cl.length = 0 ∧ ccl = 0) (hrn : Rd w 1 An ns.length (ints ns)) :
    Calls Tryz.prog 9 #[.agg #[.slice As p.steps.length cs, .int .i64 p.hold, .int .i64 p.calm, .int .i64 p.notice, .int .i64 p.grace], .slice A l.length ca, .agg #[.int .i64 v.cls, .int .i64 v.ton, .bool v.esc], .int .i64 day, .agg #[.int .i64 x.con, .int .i64 x.thk, .int .i64 x.rid, .int .i64 x.prs], .agg #[.int .i64 a, .int .i64 b, .int .i64 c, .slice Acl cl.length ccl], .slice An ns.length cn] w fun e w' => e = .returned (.bool true) ∧ Below w.heap.size w w' := by
  by_cases h1 : longB p.steps.length l.length = true ∨ 100 < cl.length ∨ 20 < ns.length
  · exact bounds_long As cs p A ca l v day x a b c Acl ccl cl An cn ns w h1
  · exact bounds_main As cs p A ca l v day x a b c Acl ccl cl An cn ns w hp hcs hr hrc hcc hrn (by simpa using fun h => h1 (.inl h)) (by omega) (by omega)
end Go.Proofs.YtbgnkljjgfcngaaGreat
