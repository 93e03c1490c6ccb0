/- PortOpen: from Keeps on, where a plan cannot be repeated for ever (printed by wip/tools/ptopenb.py) -/
import Derived.Test.YthmldeningpjbaaPOp31
set_option linter.unusedVariables false
set_option linter.unusedSimpArgs false
namespace Go.Proofs.Ythmldeningpjbaa
open Go Go.RowKit Go.Lib Sp Pt
set_option linter.unusedVariables false
set_option linter.unusedSimpArgs false



set_option linter.unusedVariables false
def Op53V (sb pb : Nat) (Ac : Option Addr) (n cc ub nb : Nat) (s : Nat × Nat) : Nat → Value → Prop
  | 0, v => v = .pointer (some ⟨pb, 0, none⟩)
  | 1, v => v = .slice Ac n cc
  | 2, v => v = .int .i64 n
  | 3, v => v = .slice (some ⟨s.1, 0, none⟩) n n
  | 4, v => v = .pointer (some ⟨sb, 1, none⟩)
  | 5, v => v = .slice (some ⟨ub, 0, none⟩) nb nb
  | 6, v => v = .agg #[.slice (some ⟨s.1, 0, none⟩) n n, .slice (some ⟨ub, 0, none⟩) nb nb]
  | 7, v => v = .pointer (some ⟨s.2, 0, none⟩)
  | _, _ => True

set_option maxRecDepth 100000 in
set_option maxHeartbeats 4000000 in
theorem open_b {Q0 : Exit → Act → World → Prop} {c : PoC} {s : StC} {w w1 : World} {r a ab : Nat} (E : PoE c w1) (S : StE c s w1) (bw : Below w.heap.size w w1) (hp : MdP c.p) (hl : MdL c.p c.l) (ht : turns c.p c.l = true) (hbn : BrN c.p.chs.length s.b 0) (hab : w1.heap[ab]? = some (.cells #[.int .i64 (a : Int)] 3 (0, 0))) (ha : a < c.p.chs.length ∧ rounds (foldS c.p c.l a) = r) (hr1 : ∀ i : Nat, i < c.p.chs.length → rounds (foldS c.p c.l i) < 0 ∨ (r : Int) ≤ rounds (foldS c.p c.l i)) (hr2 : ∀ i : Nat, i < a → rounds (foldS c.p c.l i) < 0 ∨ (r : Int) < rounds (foldS c.p c.l i)) {s0 s1 s2 s3 s4 s5 s6 s7 s8 s11 s13 s18 s19 s20 s21 s22 s23 s24 s25 s26 s27 s28 s29 s30 s31 s32 s33 s34 s35 s36 s37 s38 s39 s40 s41 s42 s43 s44 s45 s46 s47 s48 s49 s50 s51 s52 s53 s54 s55 s56 s57 s58 s59 s60 s61 s62 s63 s64 s65 s66 s67 s68 s69 s70 s71 s72 s73 s74 s75 s76 s77 s78 s79 s80 s81 s82 s83 s84 s85 s86 s87 s88 s89 s90 s91 s92 s93 s94 s95 s96 s97 s98 s99 s100 s101 s102 s103 s104 s105 s106 s107 s108 s109 s110 s111 s112 s113 s114 s115 s116 s117 s118 s119 s120 s121 s122 s123 s124 s125 s126 s127 s128 s129 s130 s131 s132 s133 s134 s135 s136 s137 s138 s139 s140 s141 s142 s143 s144 s145 s146 s147 s148 s149 s150 s151 s152 s153 s154 s155 s156 s157 s158 s159 s160 s161 s162 s163 s164 s165 s166 s167 s168 s169 s170 s171 s172 s173 s174 s175 s176 s177 s178 s179 s180 s181 s182 s183 s184 s185 s186 s187 s188 s189 s190 s191 s192 s193 s194 s195 s196 s197 s198 s199 s200 s201 s202 s203 s204 s205 s206 s207 s208 s209 s210 s211 s212 s213 s214 s215 s216 s217 s218 s219 s220 s221 s222 s223 s224 s225 s226 s227 s228 s229 s230 s231 s232 s233 s234 s235 s236 s237 s238 s239 s240 s241 s242 s243 s244 s245 s246 s247 s248 s249 s250 s251 s252 s253 s254 s255 s256 s257 s258 s259 s260 s261 s262 s263 s264 s265 s266 s267 s268 s269 s270 s271 s272 s273 s274 s275 s276 s277 s278 s279 s280 s281 s282 s283 s284 s285 s286 s287 s288 s289 s290 s291 s292 s293 s294 s295 s296 s297 s298 s299 s300 s301 s302 s303 s304 s305 s306 s307 s308 s309 s310 s311 s312 s313 s314 s315 s316 s317 s318 s319 s320 s321 s322 s323 : Value} (hQ0 : ∀ e1 a1 w1, bodyPost Try.prog Try.f3 (fun e w' => e = .returned (.bool true) ∧ Below w.heap.size w w') e1 a1 w1 → Q0 e1 a1 w1) :
    Code.wp Try.prog (restOf Try.f3 25) Q0 ⟨#[s0, s1, s2, s3, s4, s5, s6, s7, s8, .pointer (some ⟨c.pb, 0, none⟩), .pointer (some ⟨c.lb, 0, none⟩), s11, .int .i64 4, s13, .pointer (some ⟨s.sb, 0, none⟩), .int .i64 (r : Int), .pointer (some ⟨ab, 0, none⟩), .int .i64 0, s18, s19, s20, s21, s22, s23, s24, s25, s26, s27, s28, s29, s30, s31, s32, s33, s34, s35, s36, s37, s38, s39, s40, s41, s42, s43, s44, s45, s46, s47, s48, s49, s50, s51, s52, s53, s54, s55, s56, s57, s58, s59, s60, s61, s62, s63, s64, s65, s66, s67, s68, s69, s70, s71, s72, s73, s74, s75, s76, s77, s78, s79, s80, s81, s82, s83, s84, s85, s86, s87, s88, s89, s90, s91, s92, s93, s94, s95, s96, s97, s98, s99, s100, s101, s102, s103, s104, s105, s106, s107, s108, s109, s110, s111, s112, s113, s114, s115, s116, s117, s118, s119, s120, s121, s122, s123, s124, s125, s126, s127, s128, s129, s130, s131, s132, s133, s134, s135, s136, s137, s138, s139, s140, s141, s142, s143, s144, s145, s146, s147, s148, s149, s150, s151, s152, s153, s154, s155, s156, s157, s158, s159, s160, s161, s162, s163, s164, s165, s166, s167, s168, s169, s170, s171, s172, s173, s174, s175, s176, s177, s178, s179, s180, s181, s182, s183, s184, s185, s186, s187, s188, s189, s190, s191, s192, s193, s194, s195, s196, s197, s198, s199, s200, s201, s202, s203, s204, s205, s206, s207, s208, s209, s210, s211, s212, s213, s214, s215, s216, s217, s218, s219, s220, s221, s222, s223, s224, s225, s226, s227, s228, s229, s230, s231, s232, s233, s234, s235, s236, s237, s238, s239, s240, s241, s242, s243, s244, s245, s246, s247, s248, s249, s250, s251, s252, s253, s254, s255, s256, s257, s258, s259, s260, s261, s262, s263, s264, s265, s266, s267, s268, s269, s270, s271, s272, s273, s274, s275, s276, s277, s278, s279, s280, s281, s282, s283, s284, s285, s286, s287, s288, s289, s290, s291, s292, s293, s294, s295, s296, s297, s298, s299, s300, s301, s302, s303, s304, s305, s306, s307, s308, s309, s310, s311, s312, s313, s314, s315, s316, s317, s318, s319, s320, s321, s322, s323], []⟩ w1 := by
  refine wp_mono ?_ hQ0
  clear hQ0
  conv => arg 2; whnf
  have hnc := hp.nc
  have hnb := hp.nb
  have HSL : Hid (s.b.length = c.p.chs.length) := Lib.hid hbn.1
  have HMd := Lib.hid (And.intro hp (And.intro hl ht))
  have HRN := Lib.hid (And.intro ha (And.intro hr1 hr2))
  have HL := Lib.hid hbn
  have HE := Lib.hid (And.intro E (And.intro S bw))
  have HAB := Lib.hid hab
  obtain ⟨hst, hk1, hk2⟩ := keeps_of hp hl ht (k := 0) (by decide) hbn
  obtain ⟨kv, hkv2⟩ : ∃ k, k = keepsV c.p (st0 c.p s.b) c.l := ⟨_, rfl⟩
  have KK : Calls Try.prog 18 #[.agg (prtV c.Ac c.cc c.Ab c.cb c.p), .agg #[.slice (some ⟨s.gb, 0, none⟩) c.p.chs.length s.cr, .slice (some ⟨s.ub, 0, none⟩) c.p.bts.length c.p.bts.length], .agg (plnV c.Al c.cl c.As c.cs c.l)] w1 fun e w' => e = .returned (.tuple #[.bool kv, .int .i64 0]) ∧ Below w1.heap.size w1 w' := by
    have h := E.keeps S
    rw [HSL.out] at h
    refine h.mono ?_
    rintro e w' ⟨rfl, b⟩
    exact ⟨by rw [hst, ← hkv2], b⟩
  rw [← hkv2] at hk1 hk2
  have HK := Lib.hid (And.intro KK (And.intro hk1 hk2))
  clear E S bw hp hl hbn ht hst hk1 hk2 hkv2 KK hab ha hr1 hr2
  have CC0 := HE.out.1.cells
  have SC0 := HE.out.2.1.cells
  obtain ⟨q0, q1, q2, q3, q4, q5, zp, zl⟩ := CC0
  obtain ⟨r0, r1, zs⟩ := SC0
  rw [HSL.out] at r0
  go_upto_region 28 with (go_at_call 18; refine HK.out.1.mono ?_; rintro e w2 ⟨rfl, b2⟩; have HB2 := Lib.hid b2; clear b2)
  clear q0 q1 q2 q3 q4 q5 zp zl r0 r1 zs
  have H2 := Lib.hid (And.intro (HE.out.1.below HB2.out) (And.intro (HE.out.2.1.below HB2.out) (HE.out.2.2.trans (HB2.out.mono HE.out.2.2.size))))
  have CC0 := H2.out.1.cells
  have SC0 := H2.out.2.1.cells
  obtain ⟨q0, q1, q2, q3, q4, q5, zp, zl⟩ := CC0
  obtain ⟨r0, r1, zs⟩ := SC0
  rw [HSL.out] at r0
  go_upto_region 29 with fail
  clear q0 q1 q2 q3 q4 q5 zp zl r0 r1 zs
  obtain ⟨xb, hxb⟩ : ∃ b, b = w2.heap.size := ⟨_, rfl⟩
  obtain ⟨X2, hX2⟩ : ∃ X, X = w2.alloc (.cells #[.slice (some ⟨s.gb, 0, none⟩) c.p.chs.length s.cr, .slice (some ⟨s.ub, 0, none⟩) c.p.bts.length c.p.bts.length] 42) := ⟨_, rfl⟩
  rw [← hX2, ← hxb]
  have bX : Below w2.heap.size w2 X2 := by rw [hX2]; exact (Below.refl _ _).alloc (Nat.le_refl _) _
  have hx : X2.heap[xb]? = some (.cells #[.slice (some ⟨s.gb, 0, none⟩) c.p.chs.length s.cr, .slice (some ⟨s.ub, 0, none⟩) c.p.bts.length c.p.bts.length] 42 (0, 0)) := by rw [hX2, hxb]; exact heap_alloc_new _ _
  have R0 : RdS w2 c s xb 0 s.b (some ⟨s.gb, 0, none⟩) s.cr (some ⟨s.ub, 0, none⟩) c.p.bts.length X2 := ⟨HL.out, hx, (H2.out.2.1.below bX).SB, bX, fun _ => rfl⟩
  have HR0 := Lib.hid R0
  have hxw : w2.heap.size ≤ xb := by omega
  have bwX : Below w2.heap.size w2 X2 := bX
  clear hX2 hxb bX hx R0
  go_upto_block 4 with fail
  go_cut [22, 23, 24, 25] from 150 to 203 (fun _ _ _ _ wx => Below w2.heap.size w2 wx)
  case first =>
    -- SKIP
    go_wp2_with fail
    go_loopg [150] 30 (fun g i wx => ∃ (k : Nat) (b : List Int) (A : Option Addr) (cA : Nat) (B : Option Addr) (d : Nat), g + k = 30 ∧ i = .int .i64 k ∧ RdS w2 c s xb k b A cA B d wx ∧ (kv = true → ∀ i : Nat, i < c.p.chs.length → getI b i ≤ getI s.b i))
    case atStart => exact ⟨0, _, _, _, _, _, rfl, rfl, HR0.out, fun _ _ _ => Int.le_refl _⟩
    case round =>
      obtain ⟨k, b, A, cA, B, d, hk, rfl, hR, hlim⟩ := hrel
      by_cases hlt : k < 30
      · have E3 := H2.out.1.below hR.2.2.2.1
        have hx0 := hR.2.1
        have x0 : wr.cell? ⟨xb, 0, none⟩ = some (.slice A c.p.chs.length cA) := (cell_of_heap hx0 0).trans rfl
        have x1 : wr.cell? ⟨xb, 1, none⟩ = some (.slice B c.p.bts.length d) := (cell_of_heap hx0 1).trans rfl
        have zx := heap_lt hx0
        have krun := E3.runBox HMd.out.1 HMd.out.2.1 HMd.out.2.2 hR.2.2.1 hR.1 (by omega)
        have H3 := Lib.hid (And.intro E3 (And.intro (H2.out.2.1.below hR.2.2.2.1) (And.intro hR (And.intro krun hlim))))
        obtain ⟨q0, q1, q2, q3, q4, q5, zp, zl⟩ := E3.cells
        clear E3 hx0 hR krun hlim
        go_wp2_with fail
        refine H3.out.2.2.2.1.mono ?_
        rintro e w4 (⟨hlim, A4, c4, B4, d4, i4, rfl, SB4, b4, fA4, fB4⟩ | ⟨j, x, i, A4, c4, B4, d4, hj, hi, hpx, hno, rfl, b4⟩)
        rotate_left
        · have hkvf : kv = false := by
            cases hq : kv with
            | false => rfl
            | true =>
              have h1 := HK.out.2.2 hq i hi
              exact absurd (lim_keep h1.1 (H3.out.2.2.2.2 hq i hi)) hno
          subst hkvf
          have hjl := (List.getElem?_eq_some_iff.1 hj).1
          have E4 := H3.out.1.below b4
          obtain ⟨v0, v1, v2, v3, v4, v5, vp, vl⟩ := E4.cells
          have HB4 := Lib.hid b4
          have hjl2 : ¬ (c.l.calls.length : Int) ≤ (j : Int) := by omega
          clear hno hi hpx hj b4 E4 q0 q1 q2 q3 q4 q5 zp zl x0 x1 zx v0 v1 v2 v3 v5 vp hjl
          go_wp2_with fail
          go_meet
          have h1 := H3.out.2.2.1.2.2.2.1
          have h2 := h1.trans (HB4.out.mono h1.size)
          exact h2.alloc h2.size _
        have HLM := Lib.hid hlim
        have H4 := Lib.hid (And.intro SB4 (And.intro b4 (And.intro fA4 fB4)))
        clear SB4 b4 fA4 fB4 hlim
        go_upto_region 33 with fail
        obtain ⟨yb, hyb⟩ : ∃ b, b = w4.heap.size := ⟨_, rfl⟩
        obtain ⟨X4, hX4⟩ : ∃ X, X = w4.alloc (.cells #[.slice A4 c.p.chs.length c4, .slice B4 c.p.bts.length d4] 42) := ⟨_, rfl⟩
        rw [← hX4, ← hyb]
        have hy : X4.heap[yb]? = some (.cells #[.slice A4 c.p.chs.length c4, .slice B4 c.p.bts.length d4] 42 (0, 0)) := by rw [hX4, hyb]; exact heap_alloc_new _ _
        have bX4 : Below wr.heap.size wr X4 := by rw [hX4]; exact H4.out.2.1.alloc H4.out.2.1.size _
        have SB4 : SttB X4.heap.size X4 A4 c4 B4 d4 (st0 c.p (apB c.p c.l b)) := by
          have h : Below w4.heap.size w4 X4 := by rw [hX4]; exact (Below.refl _ _).alloc (Nat.le_refl _) _
          exact (H4.out.1.below h).mono h.size
        have hyx : yb ≠ xb := by have := H4.out.2.1.size; have := heap_lt H3.out.2.2.1.2.1; omega
        have S4 := H3.out.2.1.below bX4
        have hx4 := (bX4.block _ (heap_lt H3.out.2.2.1.2.1)).trans H3.out.2.2.1.2.1
        have H5 := Lib.hid (And.intro hy (And.intro bX4 (And.intro SB4 (And.intro S4 hx4))))
        have y0 : X4.cell? ⟨yb, 0, none⟩ = some (.slice A4 c.p.chs.length c4) := (cell_of_heap hy 0).trans rfl
        have y1 : X4.cell? ⟨yb, 1, none⟩ = some (.slice B4 c.p.bts.length d4) := (cell_of_heap hy 1).trans rfl
        obtain ⟨r0, r1, zs⟩ := S4.cells
        rw [HSL.out] at r0
        have u0 := (cell_of_heap hx4 0).trans rfl
        have u1 := (cell_of_heap hx4 1).trans rfl
        have f0 := frozen_of_heap hx4 0
        have f1 := frozen_of_heap hx4 1
        have zy := heap_lt hy
        have zu := heap_lt hx4
        clear q0 q1 q2 q3 q4 q5 zp zl x0 x1 zx hy bX4 SB4 S4 hx4 hX4 hyb
        have hfin : ∀ wz : World, Keep [xb] X4 wz → wz.heap[xb]? = some (.cells #[.slice A4 c.p.chs.length c4, .slice B4 c.p.bts.length d4] 42 (0, 0)) → RdS w2 c s xb (k + 1) (apB c.p c.l b) A4 c4 B4 d4 wz ∧ (kv = true → ∀ i : Nat, i < c.p.chs.length → getI (apB c.p c.l b) i ≤ getI s.b i) := fun wz hkz hz => by
          have bz : Below w2.heap.size w2 wz := (H3.out.2.2.1.2.2.2.1.trans (H5.out.2.1.mono H3.out.2.2.1.2.2.2.1.size)).trans (hkz.below (by have := H3.out.2.2.1.2.2.2.1.size; have := H5.out.2.1.size; omega) (by simp; exact hxw))
          have zx3 := heap_lt H3.out.2.2.1.2.1
          refine ⟨⟨H3.out.2.2.1.1.step HMd.out.1 HMd.out.2.1, hz, (H5.out.2.2.1.keep hkz (fun b o e => ?_) (fun b o e => ?_)).mono hkz.size, bz, fun h => by omega⟩, fun hq i hi => ?_⟩
          · have := H4.out.2.2.1 b o e; simp; omega
          · have := H4.out.2.2.2 b o e; simp; omega
          · rw [apB_get hi]
            have h1 := HK.out.2.2 hq i hi
            rw [apB_get hi] at h1
            exact Int.le_trans (ap_mono (H3.out.2.2.2.2 hq i hi)) h1.2
        have HF := Lib.hid hfin
        clear hfin
        by_cases hk0 : k = 0
        · subst hk0
          have hbs := H3.out.2.2.1.2.2.2.2 rfl
          have hyA : ∃ g o, A4 = some ⟨g, o, none⟩ := by obtain ⟨g, o, e, _⟩ := H5.out.2.2.1.br.2 (by simp only [st0, apB_length]; omega); exact ⟨g, o, e⟩
          obtain ⟨gy, oy, rfl⟩ := hyA
          have bZ : Below X4.heap.size X4 (X4.alloc (.cells #[.int .i64 0, .int .i64 1, .int .i64 2] 3)) := (Below.refl _ _).alloc (Nat.le_refl _) _
          obtain ⟨t1, t2⟩ := take012 hnc
          obtain ⟨v, hv⟩ : ∃ v, v = (([0, 1, 2] : List Int).take c.p.chs.length).any fun x => decide (getI s.b x < getI (apB c.p c.l s.b) x) := ⟨_, rfl⟩
          have hany : Calls Try.prog 20 #[.slice (some ⟨X4.heap.size, 0, none⟩) c.p.chs.length 3, .func (.func 21) #[] #[.pointer (some ⟨yb, 0, none⟩), .pointer (some ⟨s.sb, 0, none⟩)]] (X4.alloc (.cells #[.int .i64 0, .int .i64 1, .int .i64 2] 3)) fun e w' => e = .returned (.bool v) ∧ ∃ m, w' = (X4.alloc (.cells #[.int .i64 0, .int .i64 1, .int .i64 2] 3)).drewN m := by
            have hgy : 0 < c.p.chs.length := hnc.1
            have h := anyOpen1_any (fun x => decide (getI s.b x < getI (apB c.p c.l s.b) x)) (.pointer (some ⟨yb, 0, none⟩)) (.pointer (some ⟨s.sb, 0, none⟩)) (some ⟨X4.heap.size, 0, none⟩) 3 (([0, 1, 2] : List Int).take c.p.chs.length) (X4.alloc (.cells #[.int .i64 0, .int .i64 1, .int .i64 2] 3)) ?_ (by omega) ?_
            · rw [t1, ← hv] at h; exact h
            · refine ⟨by rw [t1]; simp [ints]; omega, fun _ => ⟨_, 0, rfl, by simp, fun j u hu => ?_⟩⟩
              rw [Nat.zero_add, World.cell?_alloc_new]
              have h1 : j < c.p.chs.length := by have := (List.getElem?_eq_some_iff.1 hu).1; simp [ints] at this; omega
              rw [ints, List.getElem?_map, List.getElem?_take_of_lt h1] at hu
              have : j = 0 ∨ j = 1 ∨ j = 2 := by omega
              rcases this with rfl | rfl | rfl <;> simpa using hu
            · intro x hx n
              obtain ⟨i, rfl, hi⟩ := t2 x hx
              have ry := H5.out.2.2.1.br
              have rs := H5.out.2.2.2.1.SB.br
              simp only [st0] at ry rs
              rw [hbs, apB_length] at ry
              have hsl := HSL.out
              rw [hsl] at rs
              have hsc := H5.out.2.2.2.1.hs
              rw [hsl] at hsc
              exact open1_any (B1 := B4) (n1 := c.p.bts.length) (d1 := d4) (B2 := some ⟨s.ub, 0, none⟩) (n2 := c.p.bts.length) (d2 := c.p.bts.length) ((bZ.block _ (heap_lt H5.out.1)).trans H5.out.1) ((bZ.block _ (heap_lt hsc)).trans hsc) ((ry.rd (Nat.le_refl _)).below bZ) ((rs.rd (Nat.le_refl _)).below bZ) (apB_length _ _ _) hsl hi (by omega) n
          have hkv : kv = !v := by rw [HK.out.2.1 (by rw [← hbs]; exact HLM.out), any012 hnc, ← hv]
          subst hkv
          have HA := Lib.hid hany
          have HBS := Lib.hid hbs
          clear hany t1 t2 hv hbs bZ
          go_upto_region 38 with (go_at_call 20; refine HA.out.mono ?_; rintro e w5 ⟨rfl, m, rfl⟩)
          go_wp2_with fail
          go_roundg (gk - 1)
          case measure => omega
          case rel =>
            have kz : Keep [xb] X4 ((((X4.alloc (.cells #[.int .i64 0, .int .i64 1, .int .i64 2] 3)).drewN m).setCell ⟨xb, 0, none⟩ (.slice (some ⟨gy, oy, none⟩) c.p.chs.length c4)).setCell ⟨xb, 1, none⟩ (.slice B4 c.p.bts.length d4)) := ((((Keep.refl [xb] X4).alloc _).drewN m).setCell (.inl (by simp)) _).setCell (.inl (by simp)) _
            obtain ⟨z1, z2⟩ := HF.out _ kz (heap_set (heap_set (g := xb) (w := (X4.alloc (.cells #[.int .i64 0, .int .i64 1, .int .i64 2] 3)).drewN m) (heap_alloc' H5.out.2.2.2.2 _) 0 _) 1 _)
            exact ⟨0 + 1, _, _, _, _, _, by omega, by go_num, z1, z2⟩
        · have hk1 : ¬ (k : Int) = 0 := by omega
          go_wp2_with fail
          go_roundg (gk - 1)
          case measure => omega
          case rel =>
            have kz : Keep [xb] X4 ((X4.setCell ⟨xb, 0, none⟩ (.slice A4 c.p.chs.length c4)).setCell ⟨xb, 1, none⟩ (.slice B4 c.p.bts.length d4)) := ((Keep.refl [xb] X4).setCell (.inl (by simp)) _).setCell (.inl (by simp)) _
            obtain ⟨z1, z2⟩ := HF.out _ kz (heap_set (heap_set H5.out.2.2.2.2 0 _) 1 _)
            exact ⟨k + 1, _, _, _, _, _, by omega, by go_num, z1, z2⟩
      · obtain rfl : k = 30 := by omega
        have bw := hR.2.2.2.1
        have HR3 := Lib.hid bw
        clear hR hlim hk hlt
        go_wp2_with fail
        go_meet
        exact HR3.out
    -- END
  case rest =>
    obtain ⟨wc, hwc, hB⟩ : ∃ wc, wc = _ ∧ Below w2.heap.size w2 wc := ⟨_, rfl, hcut⟩
    rw [← hwc]
    have HB := Lib.hid hB
    clear hcut hwc hB
    by_cases hr30 : (r : Int) < 30
    · have E5 := H2.out.1.below HB.out
      have S5 := H2.out.2.1.below HB.out
      have gab := (HB.out.block _ (heap_lt ((HB2.out.block _ (heap_lt HAB.out)).trans HAB.out))).trans ((HB2.out.block _ (heap_lt HAB.out)).trans HAB.out)
      have HE5 := Lib.hid (And.intro E5 (And.intro S5 gab))
      obtain ⟨q0, q1, q2, q3, q4, q5, zp, zl⟩ := E5.cells
      obtain ⟨r0, r1, zs⟩ := S5.cells
      go_upto_region 53 with fail
      have HMK := Lib.hid (run_make_ints9 c.p.chs.length (by omega))
      have HS1 := Lib.hid (And.intro r1 (And.intro zs (And.intro q0 zp)))
      clear E5 S5 gab q0 q1 q2 q3 q4 q5 r0 r1
      refine wp_region_steps (σ := Nat × Nat) (by kernel_rfl) (by kernel_rfl) (fun sg jx vx _ => Op53V s.sb c.pb c.Ac c.p.chs.length c.cc s.ub c.p.bts.length sg jx vx) (fun sg ly wx => MkW 3 7 8 (zeros c.p.chs.length) 3 #[.slice none 0 0, .slice none 0 0] (fun zb => #[.slice (some ⟨zb, 0, none⟩) c.p.chs.length c.p.chs.length, .slice (some ⟨s.ub, 0, none⟩) c.p.bts.length c.p.bts.length]) 42 wc sg ly wx) (0, 0) ?_ ?_ ?_
      · exact MkW.start
      · simp only [AllFrom, Nat.zero_add, Nat.reduceAdd]
        refine ⟨?_, ?_, ?_, ?_, ?_, ?_, ?_, ?_, ?_, trivial⟩
        · refine step_pure fun sg ly a wx hl hd hW hF => ?_
          have et9 := hF.old 9 (by kernel_rfl)
          simp [Act.eval] at et9
          exact ⟨hW.other _ (by decide), .pointer (some ⟨c.pb, 0, none⟩), by go_simp, rfl⟩
        · refine step_pure fun sg ly a wx hl hd hW hF => ?_
          simp [Region.binds] at hd
          have et248 := hF.new 0 248 (by simp [hd]) rfl
          simp [Op53V, Act.eval] at et248
          have cA := hW.1.cell HS1.out.2.2.1 (by simp)
          exact ⟨hW.other _ (by decide), .slice c.Ac c.p.chs.length c.cc, by go_simp, rfl⟩
        · refine step_pure fun sg ly a wx hl hd hW hF => ?_
          simp [Region.binds] at hd
          have et249 := hF.new 1 249 (by simp [hd]) rfl
          simp [Op53V, Act.eval] at et249
          exact ⟨hW.other _ (by decide), .int .i64 c.p.chs.length, by go_simp, rfl⟩
        · refine step_run fun sg ly a wx hl hd hW hF => ?_
          simp [Region.binds] at hd
          have et250 := hF.new 2 250 (by simp [hd]) rfl
          simp [Op53V, Act.eval] at et250
          have nS := hF.notYet 3 8 hl (by kernel_rfl)
          have n5 := hF.notYet 3 6 hl (by kernel_rfl)
          have mk := HMK.out wx
          refine ⟨_, wx.alloc (.cells (zeros c.p.chs.length) 3), (wx.heap.size, sg.2), by go_simp, hW.make (by decide) nS, rfl, ?_⟩
          intro i u hi h
          have i2 : i ≠ 3 := by rintro rfl; rw [hl] at hi; cases hi
          have i5 : i ≠ 6 := by rintro rfl; rw [n5] at hi; cases hi
          unfold Op53V at h ⊢
          split at h <;> first | exact h | exact absurd rfl i2 | exact absurd rfl i5
        · refine step_pure fun sg ly a wx hl hd hW hF => ?_
          have et14 := hF.old 14 (by kernel_rfl)
          simp [Act.eval] at et14
          exact ⟨hW.other _ (by decide), .pointer (some ⟨s.sb, 1, none⟩), by go_simp, rfl⟩
        · refine step_pure fun sg ly a wx hl hd hW hF => ?_
          simp [Region.binds] at hd
          have et252 := hF.new 4 252 (by simp [hd]) rfl
          simp [Op53V, Act.eval] at et252
          have cB := hW.1.cell HS1.out.1 (by simp)
          exact ⟨hW.other _ (by decide), .slice (some ⟨s.ub, 0, none⟩) c.p.bts.length c.p.bts.length, by go_simp, rfl⟩
        · refine step_pure fun sg ly a wx hl hd hW hF => ?_
          simp [Region.binds] at hd
          have et251 := hF.new 3 251 (by simp [hd]) rfl
          simp [Op53V, Act.eval] at et251
          have et253 := hF.new 5 253 (by simp [hd]) rfl
          simp [Op53V, Act.eval] at et253
          exact ⟨hW.other _ (by decide), .agg #[.slice (some ⟨sg.1, 0, none⟩) c.p.chs.length c.p.chs.length, .slice (some ⟨s.ub, 0, none⟩) c.p.bts.length c.p.bts.length], by go_simp, rfl⟩
        · refine step_run fun sg ly a wx hl hd hW hF => ?_
          have nS := hF.notYet 7 8 hl (by kernel_rfl)
          refine ⟨_, wx.alloc (.cells #[.slice none 0 0, .slice none 0 0] 42), (sg.1, wx.heap.size), by go_simp, hW.alloc (by decide) nS, rfl, ?_⟩
          intro i u hi h
          have i7 : i ≠ 7 := by rintro rfl; rw [hl] at hi; cases hi
          unfold Op53V at h ⊢
          split at h <;> first | exact h | exact absurd rfl i7
        · refine step_store rfl fun sg ly a wx hl hd hW hF => ?_
          simp [Region.binds] at hd
          have et32 := hF.new 7 32 (by simp [hd]) rfl
          simp [Op53V, Act.eval] at et32
          have et254 := hF.new 6 254 (by simp [hd]) rfl
          simp [Op53V, Act.eval] at et254
          have y2 : ly 3 = true := by simp [hd]
          have y6 : ly 7 = true := by simp [hd]
          obtain ⟨hh, _⟩ := hW.2.2.1 y6
          rw [if_neg (by simp [hl])] at hh
          have u0 := (cell_of_heap hh 0).trans rfl
          have u1 := (cell_of_heap hh 1).trans rfl
          have v0 := frozen_of_heap hh 0
          have v1 := frozen_of_heap hh 1
          have zz := heap_lt hh
          exact ⟨(wx.setCell ⟨sg.2, 0, none⟩ (.slice (some ⟨sg.1, 0, none⟩) c.p.chs.length c.p.chs.length)).setCell ⟨sg.2, 1, none⟩ (.slice (some ⟨s.ub, 0, none⟩) c.p.bts.length c.p.bts.length), sg, .skip, by go_simp, .inl rfl, hW.store (by decide) y2 y6 (((Keep.refl _ _).setCell (.inl (by simp)) _).setCell (.inl (by simp)) _) (heap_set (heap_set hh 0 _) 1 _), fun _ _ _ h => h⟩
      intro sg af w5 hWW hF
      have e32 := hF.new 7 32 (by decide) rfl
      obtain ⟨ff, hf, rfl⟩ := hF.lit
      rw [← hf] at e32
      simp only [Op53V] at e32
      obtain ⟨zb, ob⟩ := sg
      obtain ⟨kp5, hz5, ho5, hne5⟩ := hWW
      obtain ⟨hz5, gz5⟩ := hz5 rfl
      obtain ⟨ho5, go5⟩ := ho5 rfl
      have hne5 := hne5 rfl rfl
      simp only [List.length_cons, List.length_nil, Nat.reduceAdd, Nat.reduceLT, decide_true, if_true] at hz5 ho5 gz5 go5 hne5 e32
      simp only [List.filterMap, List.foldl, List.setIfInBounds_toArray, List.set_cons_succ, List.set_cons_zero, e32]
      have b5 : Below wc.heap.size wc w5 := kp5.below (Nat.le_refl _) (by simp)
      have SB5 : SttB w5.heap.size w5 (some ⟨zb, 0, none⟩) c.p.chs.length (some ⟨s.ub, 0, none⟩) c.p.bts.length (st0 c.p (itB c.p c.l 0)) := by
        have hS := (HE5.out.2.1.below b5).SB
        have e : (itB c.p c.l 0).length = c.p.chs.length := by simp [itB]
        refine ⟨⟨by simp [st0, ints], fun _ => ⟨zb, 0, rfl, heap_lt hz5, fun j u hu => ?_⟩⟩, hS.bu, ⟨by simp [st0, e], by omega, fun h => by cases h⟩, hS.c2⟩
        rw [Nat.zero_add]
        refine (cell_of_heap hz5 j).trans ?_
        simp only [st0] at hu
        rw [itB_zero] at hu
        unfold zeros noughts
        rw [List.getElem?_toArray]
        simpa [ints] using hu
      have H5 := Lib.hid (And.intro b5 (And.intro ho5 (And.intro SB5 go5)))
      clear e32 hf hF kp5 hz5 ho5 gz5 hne5 b5 SB5 zs zp
      go_wp2_with fail
      go_loopg [256] r (fun g i wx => ∃ (k : Nat) (A : Option Addr) (cA : Nat) (B : Option Addr) (d : Nat), g + k = r ∧ i = .int .i64 k ∧ wx.heap[ob]? = some (.cells #[.slice A c.p.chs.length cA, .slice B c.p.bts.length d] 42 (0, 0)) ∧ SttB wx.heap.size wx A cA B d (st0 c.p (itB c.p c.l k)) ∧ Below wc.heap.size wc wx)
      case atStart => exact ⟨0, _, _, _, _, rfl, rfl, H5.out.2.1, H5.out.2.2.1, H5.out.1⟩
      case round =>
        obtain ⟨k, A, cA, B, d, hk, rfl, ho, SB, bR⟩ := hrel
        have E6 := HE5.out.1.below bR
        have o0 : wr.cell? ⟨ob, 0, none⟩ = some (.slice A c.p.chs.length cA) := (cell_of_heap ho 0).trans rfl
        have o1 : wr.cell? ⟨ob, 1, none⟩ = some (.slice B c.p.bts.length d) := (cell_of_heap ho 1).trans rfl
        have zo := heap_lt ho
        have krun := E6.runBox HMd.out.1 HMd.out.2.1 HMd.out.2.2 SB (itB_brn HMd.out.1 HMd.out.2.1 k) (by omega)
        have kst : ∀ (e : Ending) (w' : World), RunBox wr c (itB c.p c.l k) e w' → RunIt wr c k e w' := fun e w' h => by unfold RunBox at h; rw [itB_succ] at h; exact h
        have krun := krun.mono kst
        have H6 := Lib.hid (And.intro krun (And.intro ho (And.intro bR E6)))
        obtain ⟨q0, q1, q2, q3, q4, q5, zp, zl⟩ := E6.cells
        clear krun kst ho bR E6 SB
        by_cases hlt : k < r
        · have hlim : ∀ i : Nat, i < c.p.chs.length → limOk (foldS c.p c.l i) (getI (itB c.p c.l k) i) := fun i hi => by
            rw [itB_get hi]
            rcases rounds_sem (foldS_mq HMd.out.1 HMd.out.2.1 hi) with ⟨_, h2⟩ | ⟨r', h1, h2, h3⟩
            · exact h2 k
            · rcases HRN.out.2.1 i hi with h4 | h4
              · omega
              · exact h2 k (by omega)
          have HLM := Lib.hid hlim
          clear hlim
          go_upto_region 57 with (go_at_call 19; refine H6.out.1.mono ?_; rintro e w7 (⟨_, A4, c4, B4, d4, i4, rfl, SB4, b4, fA4, fB4⟩ | ⟨j, x, i, _, _, _, _, _, hi, _, hno, _⟩); rotate_left; exact absurd (HLM.out i hi) hno; have H7 := Lib.hid (And.intro SB4 (And.intro b4 (And.intro fA4 fB4))); clear SB4 b4 fA4 fB4)
          obtain ⟨yb, hyb⟩ : ∃ b, b = w7.heap.size := ⟨_, rfl⟩
          obtain ⟨X7, hX7⟩ : ∃ X, X = w7.alloc (.cells #[.slice A4 c.p.chs.length c4, .slice B4 c.p.bts.length d4] 42) := ⟨_, rfl⟩
          rw [← hX7, ← hyb]
          have hy : X7.heap[yb]? = some (.cells #[.slice A4 c.p.chs.length c4, .slice B4 c.p.bts.length d4] 42 (0, 0)) := by rw [hX7, hyb]; exact heap_alloc_new _ _
          have bX7 : Below wr.heap.size wr X7 := by rw [hX7]; exact H7.out.2.1.alloc H7.out.2.1.size _
          have SB7 : SttB X7.heap.size X7 A4 c4 B4 d4 (st0 c.p (itB c.p c.l (k + 1))) := by
            have h : Below w7.heap.size w7 X7 := by rw [hX7]; exact (Below.refl _ _).alloc (Nat.le_refl _) _
            exact (H7.out.1.below h).mono h.size
          have hx4 := (bX7.block _ (heap_lt H6.out.2.1)).trans H6.out.2.1
          have y0 : X7.cell? ⟨yb, 0, none⟩ = some (.slice A4 c.p.chs.length c4) := (cell_of_heap hy 0).trans rfl
          have y1 : X7.cell? ⟨yb, 1, none⟩ = some (.slice B4 c.p.bts.length d4) := (cell_of_heap hy 1).trans rfl
          have u0 := (cell_of_heap hx4 0).trans rfl
          have u1 := (cell_of_heap hx4 1).trans rfl
          have f0 := frozen_of_heap hx4 0
          have f1 := frozen_of_heap hx4 1
          have zy := heap_lt hy
          have zu := heap_lt hx4
          have hyx : yb ≠ ob := by have := H7.out.2.1.size; have := heap_lt H6.out.2.1; omega
          have H8 := Lib.hid (And.intro bX7 (And.intro SB7 hx4))
          clear bX7 SB7 hx4 hy hX7 hyb q0 q1 q2 q3 q4 q5 zp zl o0 o1 zo
          go_wp2_with fail
          go_roundg (gk - 1)
          case measure => omega
          case rel =>
            have kz : Keep [ob] X7 ((X7.setCell ⟨ob, 0, none⟩ (.slice A4 c.p.chs.length c4)).setCell ⟨ob, 1, none⟩ (.slice B4 c.p.bts.length d4)) := ((Keep.refl [ob] X7).setCell (.inl (by simp)) _).setCell (.inl (by simp)) _
            have zo3 := heap_lt H6.out.2.1
            refine ⟨k + 1, _, _, _, _, by omega, by go_num, heap_set (heap_set H8.out.2.2 0 _) 1 _, (H8.out.2.1.keep kz (fun b o e => ?_) (fun b o e => ?_)).mono kz.size, ?_⟩
            · have := H7.out.2.2.1 b o e; simp; omega
            · have := H7.out.2.2.2 b o e; simp; omega
            · have h1 := H6.out.2.2.1.trans (H8.out.1.mono H6.out.2.2.1.size)
              exact h1.trans (kz.below h1.size (by simp; exact H5.out.2.2.2))
        · obtain rfl : k = r := by omega
          clear hlt
          go_wp2_with fail
          refine H6.out.1.mono ?_
          rintro e w7 (⟨hlim, _⟩ | ⟨j, x, i, A4, c4, B4, d4, hj, hi, hpx, hno, rfl, b4⟩)
          · exfalso
            have h1 := hlim a HRN.out.1.1
            rw [itB_get HRN.out.1.1] at h1
            rcases rounds_sem (foldS_mq HMd.out.1 HMd.out.2.1 HRN.out.1.1) with ⟨h2, _⟩ | ⟨r', h2, h3, h4⟩
            · rw [HRN.out.1.2] at h2; omega
            · rw [HRN.out.1.2] at h2
              have : k = r' := by omega
              exact h4 (this ▸ h1)
          · have hia : a ≤ i := by
              rw [itB_get hi] at hno
              rcases rounds_sem (foldS_mq HMd.out.1 HMd.out.2.1 hi) with ⟨_, h2⟩ | ⟨r', h2, h3, h4⟩
              · exact absurd (h2 k) hno
              · refine Nat.le_of_not_lt fun hlt => ?_
                rcases HRN.out.2.2 i hlt with h5 | h5
                · omega
                · exact hno (h3 k (by omega))
            have hx := List.mem_of_getElem? hj
            have hca := HMd.out.2.1.ca x hx
            have hjl := (List.getElem?_eq_some_iff.1 hj).1
            obtain ⟨X, hX⟩ : ∃ X, X = w7.alloc (.cells #[.slice A4 0 c4, .slice B4 0 d4] 42) := ⟨_, rfl⟩
            have bX : Below wr.heap.size wr X := by rw [hX]; exact b4.alloc b4.size _
            have E7 := H6.out.2.2.2.below bX
            obtain ⟨q0, q1, q2, q3, q4, q5, zp, zl⟩ := E7.cells
            obtain ⟨bl, ofl, hAl, hbl, hcl⟩ := (E7.LB.calls.rd (Nat.le_refl _)).2 (by omega)
            obtain ⟨g0, g1, g2⟩ := cacs_get hjl
            have hxj : c.l.calls[j] = x := by have := hj; rw [List.getElem?_eq_getElem hjl] at this; injection this
            rw [hxj] at g1
            obtain ⟨nb, hnbx⟩ : ∃ n : Nat, (n : Int) = x.berth := ⟨x.berth.toNat, by omega⟩
            have hnl : nb < c.p.bts.length := by omega
            obtain ⟨bb, ofb, Ak, ck, hAb, hbb, hd, hp1, hpa⟩ := E7.PB.bts nb hnl
            have hbtx : bt c.p x.berth = c.p.bts[nb] := by unfold bt; rw [← hnbx, Int.toNat_natCast, List.getD_eq_getElem?_getD, List.getElem?_eq_getElem hnl]; rfl
            rw [hbtx] at hpx
            obtain ⟨pa, hpae⟩ : ∃ l, l = c.p.bts[nb].path := ⟨_, rfl⟩
            rw [← hpae] at hpx hp1 hpa
            have k1 : X.cell? ⟨bl, ofl + j * 6 + 1, none⟩ = some (.int .i64 (nb : Int)) := by rw [hnbx, Nat.add_assoc]; exact hcl _ _ g1
            rw [hAl] at q4
            rw [hAb] at q1
            have hga := (bX.block _ (heap_lt ((H6.out.2.2.1.block _ (heap_lt HE5.out.2.2)).trans HE5.out.2.2))).trans ((H6.out.2.2.1.block _ (heap_lt HE5.out.2.2)).trans HE5.out.2.2)
            have a0 : X.cell? ⟨ab, 0, none⟩ = some (.int .i64 (a : Int)) := (cell_of_heap hga 0).trans rfl
            have za := heap_lt hga
            have hpl : pa.length ≤ 100 := by have := (HMd.out.1.btf _ (List.getElem_mem hnl)).2.2.ok.2.2.2.2; rw [← hpae] at this; omega
            obtain ⟨v1, hv1⟩ : ∃ v, v = pa.contains (a : Int) := ⟨_, rfl⟩
            obtain ⟨v2, hv2⟩ : ∃ v, v = pa.any fun y => decide ((a : Int) < y) := ⟨_, rfl⟩
            have hv12 : v1 = false → v2 = true := fun h => by
              rw [hv2, List.any_eq_true]
              refine ⟨i, hpx, ?_⟩
              by_cases e : a = i
              · rw [hv1, e, List.contains_eq_mem, decide_eq_false_iff_not] at h
                exact absurd hpx h
              · simp; omega
            have KC : ∀ n, Calls Try.prog 22 #[.slice Ak pa.length ck, .int .i64 (a : Int)] (X.drewN n) fun e w' => e = .returned (.bool v1) ∧ w' = X.drewN n := fun n => by
              have h := contI_any Ak ck pa (a : Int) (X.drewN n) (hpa.1.rd (Nat.le_refl _)) (by omega)
              rw [← hv1] at h
              exact h.mono fun e w' h => ⟨h.1, h.2.symm⟩
            have KA : ∀ n, Calls Try.prog 20 #[.slice Ak pa.length ck, .func (.func 23) #[] #[.pointer (some ⟨ab, 0, none⟩)]] (X.drewN n) fun e w' => e = .returned (.bool v2) ∧ ∃ m, w' = (X.drewN n).drewN m := fun n => by
              have h := anyOpen2_any (fun y => decide ((a : Int) < y)) (.pointer (some ⟨ab, 0, none⟩)) Ak ck pa (X.drewN n) (hpa.1.rd (Nat.le_refl _)) (by omega) (fun y hy k => open2_any (w := X.drewN n) a0 k)
              rw [← hv2] at h
              exact h
            have HKK := Lib.hid (And.intro KC KA)
            have hd1 : decide ((j : Int) < 0) = false := decide_eq_false (by omega)
            have hd2 : decide (c.l.calls.length ≤ j) = false := decide_eq_false (by omega)
            have zbl : bl < X.heap.size := hbl
            have zbb : bb < X.heap.size := hbb
            have hHX := Lib.hid (And.intro bX hX)
            have hj3 : (j : Int) < (c.l.calls.length : Int) := by omega
            have hn3 : (nb : Int) < (c.p.bts.length : Int) := by omega
            clear hno hi hpx hj b4 E7 hx hca hAl hcl g0 g1 g2 hxj hjl hbtx hpae hnbx hAb hd hpa hga hpl hv1 hv2 KC KA bX hia hbl hbb
            go_upto_region 62 with fail
            rw [← hX]
            clear hX
            cases v1
            · obtain rfl : v2 = true := hv12 rfl
              clear hv12
              go_quiet ((first | (go_at_call 22; with_reducible exact Calls.quiet_of_same (HKK.out.1 _)) | (go_at_call 20; with_reducible exact Calls.quiet_of (HKK.out.2 _))))
              have KW := Lib.hid awakeP_any
              go_wp2_with (go_at_call 15; refine (KW.out _).mono ?_; rintro e w8 ⟨rfl, b8⟩; have HW := Lib.hid b8; clear b8)
              go_ret
              have h1 := H2.out.2.2.trans (HB.out.mono H2.out.2.2.size)
              have h2 := h1.trans (H6.out.2.2.1.mono h1.size)
              have h3 := h2.trans (hHX.out.1.mono h2.size)
              have h4 := below_drewN h3 nq
              exact ⟨rfl, h4.trans (HW.out.mono h4.size)⟩
            · clear hv12
              go_quiet ((first | (go_at_call 22; with_reducible exact Calls.quiet_of_same (HKK.out.1 _)) | (go_at_call 20; with_reducible exact Calls.quiet_of (HKK.out.2 _))))
              have KW := Lib.hid awakeP_any
              go_wp2_with (go_at_call 15; refine (KW.out _).mono ?_; rintro e w8 ⟨rfl, b8⟩; have HW := Lib.hid b8; clear b8)
              go_ret
              have h1 := H2.out.2.2.trans (HB.out.mono H2.out.2.2.size)
              have h2 := h1.trans (H6.out.2.2.1.mono h1.size)
              have h3 := h2.trans (hHX.out.1.mono h2.size)
              have h4 := below_drewN h3 nq
              exact ⟨rfl, h4.trans (HW.out.mono h4.size)⟩
    · have KW := Lib.hid awakeP_any
      go_wp2_with (go_at_call 15; refine (KW.out _).mono ?_; rintro e w8 ⟨rfl, b8⟩; have HW := Lib.hid b8; clear b8)
      go_ret
      exact ⟨rfl, H2.out.2.2.trans ((HB.out.mono H2.out.2.2.size).trans (HW.out.mono (by have := H2.out.2.2.size; have := HB.out.size; omega)))⟩
end Go.Proofs.Ythmldeningpjbaa
