/- PortOpen: from Keeps on, where Stays says how much brash (printed by wip/tools/ptopena.py) -/
import Derived.Test.YthmldeningpjbaaPOp30
set_option linter.unusedVariables false
set_option linter.unusedSimpArgs false
namespace Go.Proofs.Ythmldeningpjbaa
open Go Go.RowKit Go.Lib Sp Pt
set_option linter.unusedVariables false
set_option linter.unusedSimpArgs false

set_option linter.unusedVariables false
def Op45V (sb : Nat) (A : Option Addr) (n cst ub nb : Nat) (s : Nat × Nat) : Nat → Value → Prop
  | 0, v => v = .slice A n cst
  | 1, v => v = .int .i64 n
  | 2, v => v = .slice (some ⟨s.1, 0, none⟩) n n
  | 3, v => v = .pointer (some ⟨sb, 1, none⟩)
  | 4, v => v = .slice (some ⟨ub, 0, none⟩) nb nb
  | 5, v => v = .agg #[.slice (some ⟨s.1, 0, none⟩) n n, .slice (some ⟨ub, 0, none⟩) nb nb]
  | 6, v => v = .pointer (some ⟨s.2, 0, none⟩)
  | _, _ => True
/-- a state in a box, while rounds go on -/
def RdS (W0 : World) (c : PoC) (s : StC) (xb k : Nat) (b : List Int) (A : Option Addr) (cA : Nat) (B : Option Addr) (d : Nat) (wx : World) : Prop :=
  BrN c.p.chs.length b k ∧ wx.heap[xb]? = some (.cells #[.slice A c.p.chs.length cA, .slice B c.p.bts.length d] 42 (0, 0)) ∧ SttB wx.heap.size wx A cA B d (st0 c.p b) ∧ Below W0.heap.size W0 wx ∧ (k = 0 → b = s.b)

set_option maxRecDepth 100000 in
set_option maxHeartbeats 4000000 in
theorem open_a {Q0 : Exit → Act → World → Prop} {c : PoC} {s : StC} {w w1 : World} {more : Int} {Ast : Option Addr} {cst : Nat} (E : PoE c w1) (S : StE c s w1) (bw : Below w.heap.size w w1) (hp : MdP c.p) (hl : MdL c.p c.l) (h0 : staysE c.p c.l = 0) (hbn : BrN c.p.chs.length s.b 0) (hlim : ∀ i : Nat, i < c.p.chs.length → limOk (foldS c.p c.l i) (getI s.b i)) (Rst : Rd w1 1 Ast c.p.chs.length (ints (staysV c.p c.l))) (hmo : 0 ≤ more ∧ more ≤ 255) {s0 s1 s2 s4 s5 s6 s7 s8 s13 s16 s18 s19 s20 s21 s22 s23 s24 s25 s26 s27 s28 s29 s30 s31 s32 s33 s34 s35 s36 s37 s38 s39 s40 s41 s42 s43 s44 s45 s46 s47 s48 s49 s50 s51 s52 s53 s54 s55 s56 s57 s58 s59 s60 s61 s62 s63 s64 s65 s66 s67 s68 s69 s70 s71 s72 s73 s74 s75 s76 s77 s78 s79 s80 s81 s82 s83 s84 s85 s86 s87 s88 s89 s90 s91 s92 s93 s94 s95 s96 s97 s98 s99 s100 s101 s102 s103 s104 s105 s106 s107 s108 s109 s110 s111 s112 s113 s114 s115 s116 s117 s118 s119 s120 s121 s122 s123 s124 s125 s126 s127 s128 s129 s130 s131 s132 s133 s134 s135 s136 s137 s138 s139 s140 s141 s142 s143 s144 s145 s146 s147 s148 s149 s150 s151 s152 s153 s154 s155 s156 s157 s158 s159 s160 s161 s162 s163 s164 s165 s166 s167 s168 s169 s170 s171 s172 s173 s174 s175 s176 s177 s178 s179 s180 s181 s182 s183 s184 s185 s186 s187 s188 s189 s190 s191 s192 s193 s194 s195 s196 s197 s198 s199 s200 s201 s202 s203 s204 s205 s206 s207 s208 s209 s210 s211 s212 s213 s214 s215 s216 s217 s218 s219 s220 s221 s222 s223 s224 s225 s226 s227 s228 s229 s230 s231 s232 s233 s234 s235 s236 s237 s238 s239 s240 s241 s242 s243 s244 s245 s246 s247 s248 s249 s250 s251 s252 s253 s254 s255 s256 s257 s258 s259 s260 s261 s262 s263 s264 s265 s266 s267 s268 s269 s270 s271 s272 s273 s274 s275 s276 s277 s278 s279 s280 s281 s282 s283 s284 s285 s286 s287 s288 s289 s290 s291 s292 s293 s294 s295 s296 s297 s298 s299 s300 s301 s302 s303 s304 s305 s306 s307 s308 s309 s310 s311 s312 s313 s314 s315 s316 s317 s318 s319 s320 s321 s322 s323 : Value} (hQ0 : ∀ e1 a1 w1, bodyPost Try.prog Try.f3 (fun e w' => e = .returned (.bool true) ∧ Below w.heap.size w w') e1 a1 w1 → Q0 e1 a1 w1) :
    Code.wp Try.prog (restOf Try.f3 25) Q0 ⟨#[s0, s1, s2, .int .u8 more, s4, s5, s6, s7, s8, .pointer (some ⟨c.pb, 0, none⟩), .pointer (some ⟨c.lb, 0, none⟩), .slice Ast c.p.chs.length cst, .int .i64 0, s13, .pointer (some ⟨s.sb, 0, none⟩), .int .i64 0, s16, .int .i64 4, s18, s19, s20, s21, s22, s23, s24, s25, s26, s27, s28, s29, s30, s31, s32, s33, s34, s35, s36, s37, s38, s39, s40, s41, s42, s43, s44, s45, s46, s47, s48, s49, s50, s51, s52, s53, s54, s55, s56, s57, s58, s59, s60, s61, s62, s63, s64, s65, s66, s67, s68, s69, s70, s71, s72, s73, s74, s75, s76, s77, s78, s79, s80, s81, s82, s83, s84, s85, s86, s87, s88, s89, s90, s91, s92, s93, s94, s95, s96, s97, s98, s99, s100, s101, s102, s103, s104, s105, s106, s107, s108, s109, s110, s111, s112, s113, s114, s115, s116, s117, s118, s119, s120, s121, s122, s123, s124, s125, s126, s127, s128, s129, s130, s131, s132, s133, s134, s135, s136, s137, s138, s139, s140, s141, s142, s143, s144, s145, s146, s147, s148, s149, s150, s151, s152, s153, s154, s155, s156, s157, s158, s159, s160, s161, s162, s163, s164, s165, s166, s167, s168, s169, s170, s171, s172, s173, s174, s175, s176, s177, s178, s179, s180, s181, s182, s183, s184, s185, s186, s187, s188, s189, s190, s191, s192, s193, s194, s195, s196, s197, s198, s199, s200, s201, s202, s203, s204, s205, s206, s207, s208, s209, s210, s211, s212, s213, s214, s215, s216, s217, s218, s219, s220, s221, s222, s223, s224, s225, s226, s227, s228, s229, s230, s231, s232, s233, s234, s235, s236, s237, s238, s239, s240, s241, s242, s243, s244, s245, s246, s247, s248, s249, s250, s251, s252, s253, s254, s255, s256, s257, s258, s259, s260, s261, s262, s263, s264, s265, s266, s267, s268, s269, s270, s271, s272, s273, s274, s275, s276, s277, s278, s279, s280, s281, s282, s283, s284, s285, s286, s287, s288, s289, s290, s291, s292, s293, s294, s295, s296, s297, s298, s299, s300, s301, s302, s303, s304, s305, s306, s307, s308, s309, s310, s311, s312, s313, s314, s315, s316, s317, s318, s319, s320, s321, s322, s323], []⟩ w1 := by
  refine wp_mono ?_ hQ0
  clear hQ0
  conv => arg 2; whnf
  have ht : turns c.p c.l = true := (stays_mq hp hl h0 (i := 0) (by have := hp.nc; omega)).1
  have hnc := hp.nc
  have hnb := hp.nb
  have HSL : Hid (s.b.length = c.p.chs.length) := Lib.hid hbn.1
  have HMd := Lib.hid (And.intro hp (And.intro hl (And.intro h0 ht)))
  have HL := Lib.hid (And.intro hbn hlim)
  have HE := Lib.hid (And.intro E (And.intro S bw))
  obtain ⟨gst, ost, rfl⟩ : ∃ g o, Ast = some ⟨g, o, none⟩ := by obtain ⟨g, o, e, _⟩ := Rst.2 (by have := hp.nc; omega); exact ⟨g, o, e⟩
  have HST := Lib.hid Rst
  obtain ⟨hst, hk1, hk2⟩ := keeps_of hp hl ht (k := 0) (by decide) hbn
  have hkv := hk1 hlim
  obtain ⟨kv, hkv2⟩ : ∃ k, k = keepsV c.p (st0 c.p s.b) c.l := ⟨_, rfl⟩
  have KK : Calls Try.prog 18 #[.agg (prtV c.Ac c.cc c.Ab c.cb c.p), .agg #[.slice (some ⟨s.gb, 0, none⟩) c.p.chs.length s.cr, .slice (some ⟨s.ub, 0, none⟩) c.p.bts.length c.p.bts.length], .agg (plnV c.Al c.cl c.As c.cs c.l)] w1 fun e w' => e = .returned (.tuple #[.bool kv, .int .i64 0]) ∧ Below w1.heap.size w1 w' := by
    have h := E.keeps S
    rw [HSL.out] at h
    refine h.mono ?_
    rintro e w' ⟨rfl, b⟩
    exact ⟨by rw [hst, ← hkv2], b⟩
  have HK := Lib.hid (And.intro KK (hkv2.trans hkv))
  clear E S bw hp hl h0 hbn hlim Rst ht hst hk1 hk2 hkv hkv2 KK
  have CC0 := HE.out.1.cells
  have SC0 := HE.out.2.1.cells
  obtain ⟨q0, q1, q2, q3, q4, q5, zp, zl⟩ := CC0
  obtain ⟨r0, r1, zs⟩ := SC0
  rw [HSL.out] at r0
  go_upto_region 28 with (go_at_call 18; refine HK.out.1.mono ?_; rintro e w2 ⟨rfl, b2⟩; have HB2 := Lib.hid b2; clear b2)
  clear q0 q1 q2 q3 q4 q5 zp zl r0 r1 zs
  have H2 := Lib.hid (And.intro (HE.out.1.below HB2.out) (And.intro (HE.out.2.1.below HB2.out) (HE.out.2.2.trans (HB2.out.mono HE.out.2.2.size))))
  have CC0 := H2.out.1.cells
  have SC0 := H2.out.2.1.cells
  obtain ⟨q0, q1, q2, q3, q4, q5, zp, zl⟩ := CC0
  obtain ⟨r0, r1, zs⟩ := SC0
  rw [HSL.out] at r0
  go_upto_region 29 with fail
  clear q0 q1 q2 q3 q4 q5 zp zl r0 r1 zs
  obtain ⟨xb, hxb⟩ : ∃ b, b = w2.heap.size := ⟨_, rfl⟩
  obtain ⟨X2, hX2⟩ : ∃ X, X = w2.alloc (.cells #[.slice (some ⟨s.gb, 0, none⟩) c.p.chs.length s.cr, .slice (some ⟨s.ub, 0, none⟩) c.p.bts.length c.p.bts.length] 42) := ⟨_, rfl⟩
  rw [← hX2, ← hxb]
  have bX : Below w2.heap.size w2 X2 := by rw [hX2]; exact (Below.refl _ _).alloc (Nat.le_refl _) _
  have hx : X2.heap[xb]? = some (.cells #[.slice (some ⟨s.gb, 0, none⟩) c.p.chs.length s.cr, .slice (some ⟨s.ub, 0, none⟩) c.p.bts.length c.p.bts.length] 42 (0, 0)) := by rw [hX2, hxb]; exact heap_alloc_new _ _
  have R0 : RdS w2 c s xb 0 s.b (some ⟨s.gb, 0, none⟩) s.cr (some ⟨s.ub, 0, none⟩) c.p.bts.length X2 := ⟨HL.out.1, hx, (H2.out.2.1.below bX).SB, bX, fun _ => rfl⟩
  have HR0 := Lib.hid R0
  have hxw : w2.heap.size ≤ xb := by omega
  clear hX2 hxb bX hx R0
  go_wp2_with fail
  go_loopg [150] 30 (fun g i wx => ∃ (k : Nat) (b : List Int) (A : Option Addr) (cA : Nat) (B : Option Addr) (d : Nat), g + k = 30 ∧ i = .int .i64 k ∧ RdS w2 c s xb k b A cA B d wx ∧ ∀ i : Nat, i < c.p.chs.length → limOk (foldS c.p c.l i) (getI b i))
  case atStart => exact ⟨0, _, _, _, _, _, rfl, rfl, HR0.out, HL.out.2⟩
  case round =>
    obtain ⟨k, b, A, cA, B, d, hk, rfl, hR, hlim⟩ := hrel
    by_cases hlt : k < 30
    · have E3 := H2.out.1.below hR.2.2.2.1
      have hx0 := hR.2.1
      have x0 : wr.cell? ⟨xb, 0, none⟩ = some (.slice A c.p.chs.length cA) := (cell_of_heap hx0 0).trans rfl
      have x1 : wr.cell? ⟨xb, 1, none⟩ = some (.slice B c.p.bts.length d) := (cell_of_heap hx0 1).trans rfl
      have zx := heap_lt hx0
      have krun := E3.runBox HMd.out.1 HMd.out.2.1 HMd.out.2.2.2 hR.2.2.1 hR.1 (by omega)
      have H3 := Lib.hid (And.intro E3 (And.intro (H2.out.2.1.below hR.2.2.2.1) (And.intro hR (And.intro krun hlim))))
      obtain ⟨q0, q1, q2, q3, q4, q5, zp, zl⟩ := E3.cells
      clear E3 hx0 hR krun hlim
      go_upto_region 33 with (go_at_call 19; refine H3.out.2.2.2.1.mono ?_; rintro e w4 (⟨_, A4, c4, B4, d4, i4, rfl, SB4, b4, fA4, fB4⟩ | ⟨j, x, i, _, _, _, _, _, hi, _, hno, _⟩); rotate_left; exact absurd (H3.out.2.2.2.2 i hi) hno; have H4 := Lib.hid (And.intro SB4 (And.intro b4 (And.intro fA4 fB4))); clear SB4 b4 fA4 fB4)
      obtain ⟨yb, hyb⟩ : ∃ b, b = w4.heap.size := ⟨_, rfl⟩
      obtain ⟨X4, hX4⟩ : ∃ X, X = w4.alloc (.cells #[.slice A4 c.p.chs.length c4, .slice B4 c.p.bts.length d4] 42) := ⟨_, rfl⟩
      rw [← hX4, ← hyb]
      have hy : X4.heap[yb]? = some (.cells #[.slice A4 c.p.chs.length c4, .slice B4 c.p.bts.length d4] 42 (0, 0)) := by rw [hX4, hyb]; exact heap_alloc_new _ _
      have bX4 : Below wr.heap.size wr X4 := by rw [hX4]; exact H4.out.2.1.alloc H4.out.2.1.size _
      have SB4 : SttB X4.heap.size X4 A4 c4 B4 d4 (st0 c.p (apB c.p c.l b)) := by
        have h : Below w4.heap.size w4 X4 := by rw [hX4]; exact (Below.refl _ _).alloc (Nat.le_refl _) _
        exact (H4.out.1.below h).mono h.size
      have hyx : yb ≠ xb := by have := H4.out.2.1.size; have := heap_lt H3.out.2.2.1.2.1; omega
      have S4 := H3.out.2.1.below bX4
      have hx4 := (bX4.block _ (heap_lt H3.out.2.2.1.2.1)).trans H3.out.2.2.1.2.1
      have H5 := Lib.hid (And.intro hy (And.intro bX4 (And.intro SB4 (And.intro S4 hx4))))
      have y0 : X4.cell? ⟨yb, 0, none⟩ = some (.slice A4 c.p.chs.length c4) := (cell_of_heap hy 0).trans rfl
      have y1 : X4.cell? ⟨yb, 1, none⟩ = some (.slice B4 c.p.bts.length d4) := (cell_of_heap hy 1).trans rfl
      obtain ⟨r0, r1, zs⟩ := S4.cells
      rw [HSL.out] at r0
      have u0 := (cell_of_heap hx4 0).trans rfl
      have u1 := (cell_of_heap hx4 1).trans rfl
      have f0 := frozen_of_heap hx4 0
      have f1 := frozen_of_heap hx4 1
      have zy := heap_lt hy
      have zu := heap_lt hx4
      clear q0 q1 q2 q3 q4 q5 zp zl x0 x1 zx hy bX4 SB4 S4 hx4 hX4 hyb
      have hfin : ∀ wz : World, Keep [xb] X4 wz → wz.heap[xb]? = some (.cells #[.slice A4 c.p.chs.length c4, .slice B4 c.p.bts.length d4] 42 (0, 0)) → RdS w2 c s xb (k + 1) (apB c.p c.l b) A4 c4 B4 d4 wz ∧ ∀ i : Nat, i < c.p.chs.length → limOk (foldS c.p c.l i) (getI (apB c.p c.l b) i) := fun wz hkz hz => by
        have bz : Below w2.heap.size w2 wz := (H3.out.2.2.1.2.2.2.1.trans (H5.out.2.1.mono H3.out.2.2.1.2.2.2.1.size)).trans (hkz.below (by have := H3.out.2.2.1.2.2.2.1.size; have := H5.out.2.1.size; omega) (by simp; exact hxw))
        have zx3 := heap_lt H3.out.2.2.1.2.1
        refine ⟨⟨H3.out.2.2.1.1.step HMd.out.1 HMd.out.2.1, hz, (H5.out.2.2.1.keep hkz (fun b o e => ?_) (fun b o e => ?_)).mono hkz.size, bz, fun h => by omega⟩, fun i hi => ?_⟩
        · have := H4.out.2.2.1 b o e; simp; omega
        · have := H4.out.2.2.2 b o e; simp; omega
        · rw [apB_get hi]
          exact lim_stay (foldS_mq HMd.out.1 HMd.out.2.1 hi) (stays_mq HMd.out.1 HMd.out.2.1 HMd.out.2.2.1 hi).2.2.2 (H3.out.2.2.2.2 i hi)
      have HF := Lib.hid hfin
      clear hfin
      by_cases hk0 : k = 0
      · subst hk0
        have hbs := H3.out.2.2.1.2.2.2.2 rfl
        have hyA : ∃ g o, A4 = some ⟨g, o, none⟩ := by obtain ⟨g, o, e, _⟩ := H5.out.2.2.1.br.2 (by simp only [st0, apB_length]; omega); exact ⟨g, o, e⟩
        obtain ⟨gy, oy, rfl⟩ := hyA
        have bZ : Below X4.heap.size X4 (X4.alloc (.cells #[.int .i64 0, .int .i64 1, .int .i64 2] 3)) := (Below.refl _ _).alloc (Nat.le_refl _) _
        obtain ⟨t1, t2⟩ := take012 hnc
        obtain ⟨v, hv⟩ : ∃ v, v = (([0, 1, 2] : List Int).take c.p.chs.length).any fun x => decide (getI s.b x < getI (apB c.p c.l s.b) x) := ⟨_, rfl⟩
        have hany : Calls Try.prog 20 #[.slice (some ⟨X4.heap.size, 0, none⟩) c.p.chs.length 3, .func (.func 21) #[] #[.pointer (some ⟨yb, 0, none⟩), .pointer (some ⟨s.sb, 0, none⟩)]] (X4.alloc (.cells #[.int .i64 0, .int .i64 1, .int .i64 2] 3)) fun e w' => e = .returned (.bool v) ∧ ∃ m, w' = (X4.alloc (.cells #[.int .i64 0, .int .i64 1, .int .i64 2] 3)).drewN m := by
          have hgy : 0 < c.p.chs.length := hnc.1
          have h := anyOpen1_any (fun x => decide (getI s.b x < getI (apB c.p c.l s.b) x)) (.pointer (some ⟨yb, 0, none⟩)) (.pointer (some ⟨s.sb, 0, none⟩)) (some ⟨X4.heap.size, 0, none⟩) 3 (([0, 1, 2] : List Int).take c.p.chs.length) (X4.alloc (.cells #[.int .i64 0, .int .i64 1, .int .i64 2] 3)) ?_ (by omega) ?_
          · rw [t1, ← hv] at h; exact h
          · refine ⟨by rw [t1]; simp [ints]; omega, fun _ => ⟨_, 0, rfl, by simp, fun j u hu => ?_⟩⟩
            rw [Nat.zero_add, World.cell?_alloc_new]
            have h1 : j < c.p.chs.length := by have := (List.getElem?_eq_some_iff.1 hu).1; simp [ints] at this; omega
            rw [ints, List.getElem?_map, List.getElem?_take_of_lt h1] at hu
            have : j = 0 ∨ j = 1 ∨ j = 2 := by omega
            rcases this with rfl | rfl | rfl <;> simpa using hu
          · intro x hx n
            obtain ⟨i, rfl, hi⟩ := t2 x hx
            have ry := H5.out.2.2.1.br
            have rs := H5.out.2.2.2.1.SB.br
            simp only [st0] at ry rs
            rw [hbs, apB_length] at ry
            have hsl := HSL.out
            rw [hsl] at rs
            have hsc := H5.out.2.2.2.1.hs
            rw [hsl] at hsc
            exact open1_any (B1 := B4) (n1 := c.p.bts.length) (d1 := d4) (B2 := some ⟨s.ub, 0, none⟩) (n2 := c.p.bts.length) (d2 := c.p.bts.length) ((bZ.block _ (heap_lt H5.out.1)).trans H5.out.1) ((bZ.block _ (heap_lt hsc)).trans hsc) ((ry.rd (Nat.le_refl _)).below bZ) ((rs.rd (Nat.le_refl _)).below bZ) (apB_length _ _ _) hsl hi (by omega) n
        have hkv : kv = !v := by rw [HK.out.2, any012 hnc, ← hv]
        subst hkv
        have HA := Lib.hid hany
        have HBS := Lib.hid hbs
        clear hany t1 t2 hv hbs bZ
        go_upto_region 38 with (go_at_call 20; refine HA.out.mono ?_; rintro e w5 ⟨rfl, m, rfl⟩)
        go_wp2_with fail
        go_roundg (gk - 1)
        case measure => omega
        case rel =>
          have kz : Keep [xb] X4 ((((X4.alloc (.cells #[.int .i64 0, .int .i64 1, .int .i64 2] 3)).drewN m).setCell ⟨xb, 0, none⟩ (.slice (some ⟨gy, oy, none⟩) c.p.chs.length c4)).setCell ⟨xb, 1, none⟩ (.slice B4 c.p.bts.length d4)) := ((((Keep.refl [xb] X4).alloc _).drewN m).setCell (.inl (by simp)) _).setCell (.inl (by simp)) _
          obtain ⟨z1, z2⟩ := HF.out _ kz (heap_set (heap_set (g := xb) (w := (X4.alloc (.cells #[.int .i64 0, .int .i64 1, .int .i64 2] 3)).drewN m) (heap_alloc' H5.out.2.2.2.2 _) 0 _) 1 _)
          exact ⟨0 + 1, _, _, _, _, _, by omega, by go_num, z1, z2⟩
      · have hk1 : ¬ (k : Int) = 0 := by omega
        go_wp2_with fail
        go_roundg (gk - 1)
        case measure => omega
        case rel =>
          have kz : Keep [xb] X4 ((X4.setCell ⟨xb, 0, none⟩ (.slice A4 c.p.chs.length c4)).setCell ⟨xb, 1, none⟩ (.slice B4 c.p.bts.length d4)) := ((Keep.refl [xb] X4).setCell (.inl (by simp)) _).setCell (.inl (by simp)) _
          obtain ⟨z1, z2⟩ := HF.out _ kz (heap_set (heap_set H5.out.2.2.2.2 0 _) 1 _)
          exact ⟨k + 1, _, _, _, _, _, by omega, by go_num, z1, z2⟩
    · obtain rfl : k = 30 := by omega
      have bw := hR.2.2.2.1
      have HR3 := Lib.hid bw
      clear hR hlim hk hlt
      go_wp2_with fail
      go_loopg [208] c.p.chs.length (fun g i wx => ∃ k : Nat, g + k = c.p.chs.length ∧ i = .int .i64 k ∧ Below w2.heap.size w2 wx)
      case atStart => exact ⟨0, rfl, rfl, HR3.out⟩
      case round =>
        obtain ⟨k, hk, rfl, bR⟩ := hrel
        have HB := Lib.hid bR
        have E5 := H2.out.1.below bR
        have S5 := H2.out.2.1.below bR
        by_cases hlt : k < c.p.chs.length
        · obtain ⟨hturn, hmo1, hmo2, hmo3⟩ := stays_mq HMd.out.1 HMd.out.2.1 HMd.out.2.2.1 hlt
          have hmq := foldS_mq HMd.out.1 HMd.out.2.1 hlt
          obtain ⟨n, hn⟩ : ∃ n, n = getI (staysV c.p c.l) k := ⟨_, rfl⟩
          rw [← hn] at hmo1
          have xc : wr.cell? ⟨gst, ost + k, none⟩ = some (.int .i64 n) := by
            obtain ⟨g, o, e, hb, hc⟩ := ((HST.out.below HB2.out).below bR).2 (by omega)
            injection e with e
            injection e with e1 e2 _
            subst e1 e2
            rw [hn, hc k _ (ints_get (by rw [hmo2]; exact hlt))]; simp [getI]
          have zg := World.block_lt_of_cell? _ _ xc
          simp only at zg
          have hnr : n = 1000000000 ∨ (0 ≤ n ∧ n ≤ 15010) := by
            have h1 := hmq.lt
            have h2 := hmq.flo
            rw [hmo1] at h1 hmo3
            simp only [NL] at h1 hmo3
            omega
          have HN := Lib.hid (And.intro hmo1 hn)
          clear hmq hmo1 hmo2 hmo3 hn hturn
          by_cases hnl : n = 1000000000
          · subst hnl
            clear E5 S5
            go_wp2_with fail
            go_roundg (gk - 1)
            case measure => omega
            case rel => exact ⟨k + 1, by omega, by go_num, HB.out⟩
          · have HE5 := Lib.hid (And.intro E5 S5)
            obtain ⟨r0, r1, zs⟩ := S5.cells
            clear E5 S5 r0
            go_upto_region 45 with fail
            have mk := run_make_ints9 c.p.chs.length (by omega)
            have HMK := Lib.hid mk
            have HS1 := Lib.hid (And.intro r1 zs)
            clear mk xc zg r1
            refine wp_region_steps (σ := Nat × Nat) (by kernel_rfl) (by kernel_rfl) (fun sg jx vx _ => Op45V s.sb (some ⟨gst, ost, none⟩) c.p.chs.length cst s.ub c.p.bts.length sg jx vx) (fun sg ly wx => MkW 2 6 7 (zeros c.p.chs.length) 3 #[.slice none 0 0, .slice none 0 0] (fun zb => #[.slice (some ⟨zb, 0, none⟩) c.p.chs.length c.p.chs.length, .slice (some ⟨s.ub, 0, none⟩) c.p.bts.length c.p.bts.length]) 42 wr sg ly wx) (0, 0) ?_ ?_ ?_
            · exact MkW.start
            · simp only [AllFrom, Nat.zero_add, Nat.reduceAdd]
              refine ⟨?_, ?_, ?_, ?_, ?_, ?_, ?_, ?_, trivial⟩
              · refine step_pure fun sg ly a wx hl hd hW hF => ?_
                have et11 := hF.old 11 (by kernel_rfl)
                simp [Act.eval] at et11
                exact ⟨hW.other _ (by decide), .slice (some ⟨gst, ost, none⟩) c.p.chs.length cst, by go_simp, rfl⟩
              · refine step_pure fun sg ly a wx hl hd hW hF => ?_
                simp [Region.binds] at hd
                have et215 := hF.new 0 215 (by simp [hd]) rfl
                simp [Op45V, Act.eval] at et215
                exact ⟨hW.other _ (by decide), .int .i64 c.p.chs.length, by go_simp, rfl⟩
              · refine step_run fun sg ly a wx hl hd hW hF => ?_
                simp [Region.binds] at hd
                have et216 := hF.new 1 216 (by simp [hd]) rfl
                simp [Op45V, Act.eval] at et216
                have nS := hF.notYet 2 7 hl (by kernel_rfl)
                have n5 := hF.notYet 2 5 hl (by kernel_rfl)
                have mk := HMK.out wx
                refine ⟨_, wx.alloc (.cells (zeros c.p.chs.length) 3), (wx.heap.size, sg.2), by go_simp, hW.make (by decide) nS, rfl, ?_⟩
                intro i u hi h
                have i2 : i ≠ 2 := by rintro rfl; rw [hl] at hi; cases hi
                have i5 : i ≠ 5 := by rintro rfl; rw [n5] at hi; cases hi
                unfold Op45V at h ⊢
                split at h <;> first | exact h | exact absurd rfl i2 | exact absurd rfl i5
              · refine step_pure fun sg ly a wx hl hd hW hF => ?_
                have et14 := hF.old 14 (by kernel_rfl)
                simp [Act.eval] at et14
                exact ⟨hW.other _ (by decide), .pointer (some ⟨s.sb, 1, none⟩), by go_simp, rfl⟩
              · refine step_pure fun sg ly a wx hl hd hW hF => ?_
                simp [Region.binds] at hd
                have et218 := hF.new 3 218 (by simp [hd]) rfl
                simp [Op45V, Act.eval] at et218
                have cB := hW.1.cell HS1.out.1 (by simp)
                exact ⟨hW.other _ (by decide), .slice (some ⟨s.ub, 0, none⟩) c.p.bts.length c.p.bts.length, by go_simp, rfl⟩
              · refine step_pure fun sg ly a wx hl hd hW hF => ?_
                simp [Region.binds] at hd
                have et217 := hF.new 2 217 (by simp [hd]) rfl
                simp [Op45V, Act.eval] at et217
                have et219 := hF.new 4 219 (by simp [hd]) rfl
                simp [Op45V, Act.eval] at et219
                exact ⟨hW.other _ (by decide), .agg #[.slice (some ⟨sg.1, 0, none⟩) c.p.chs.length c.p.chs.length, .slice (some ⟨s.ub, 0, none⟩) c.p.bts.length c.p.bts.length], by go_simp, rfl⟩
              · refine step_run fun sg ly a wx hl hd hW hF => ?_
                have nS := hF.notYet 6 7 hl (by kernel_rfl)
                refine ⟨_, wx.alloc (.cells #[.slice none 0 0, .slice none 0 0] 42), (sg.1, wx.heap.size), by go_simp, hW.alloc (by decide) nS, rfl, ?_⟩
                intro i u hi h
                have i6 : i ≠ 6 := by rintro rfl; rw [hl] at hi; cases hi
                unfold Op45V at h ⊢
                split at h <;> first | exact h | exact absurd rfl i6
              · refine step_store rfl fun sg ly a wx hl hd hW hF => ?_
                simp [Region.binds] at hd
                have et28 := hF.new 6 28 (by simp [hd]) rfl
                simp [Op45V, Act.eval] at et28
                have et220 := hF.new 5 220 (by simp [hd]) rfl
                simp [Op45V, Act.eval] at et220
                have y2 : ly 2 = true := by simp [hd]
                have y6 : ly 6 = true := by simp [hd]
                obtain ⟨hh, _⟩ := hW.2.2.1 y6
                rw [if_neg (by simp [hl])] at hh
                have u0 := (cell_of_heap hh 0).trans rfl
                have u1 := (cell_of_heap hh 1).trans rfl
                have v0 := frozen_of_heap hh 0
                have v1 := frozen_of_heap hh 1
                have zz := heap_lt hh
                exact ⟨(wx.setCell ⟨sg.2, 0, none⟩ (.slice (some ⟨sg.1, 0, none⟩) c.p.chs.length c.p.chs.length)).setCell ⟨sg.2, 1, none⟩ (.slice (some ⟨s.ub, 0, none⟩) c.p.bts.length c.p.bts.length), sg, .skip, by go_simp, .inl rfl, hW.store (by decide) y2 y6 (((Keep.refl _ _).setCell (.inl (by simp)) _).setCell (.inl (by simp)) _) (heap_set (heap_set hh 0 _) 1 _), fun _ _ _ h => h⟩
            intro sg af w5 hWW hF
            have e28 := hF.new 6 28 (by decide) rfl
            obtain ⟨ff, hf, rfl⟩ := hF.lit
            rw [← hf] at e28
            simp only [Op45V] at e28
            obtain ⟨zb, ob⟩ := sg
            obtain ⟨kp5, hz5, ho5, hne5⟩ := hWW
            obtain ⟨hz5, gz5⟩ := hz5 rfl
            obtain ⟨ho5, go5⟩ := ho5 rfl
            have hne5 := hne5 rfl rfl
            simp only [List.length_cons, List.length_nil, Nat.reduceAdd, Nat.reduceLT, decide_true, if_true] at hz5 ho5 gz5 go5 hne5 e28
            simp only [List.filterMap, List.foldl, List.setIfInBounds_toArray, List.set_cons_succ, List.set_cons_zero, e28]
            have b5 : Below wr.heap.size wr w5 := kp5.below (Nat.le_refl _) (by simp)
            have o0 : w5.cell? ⟨ob, 0, none⟩ = some (.slice (some ⟨zb, 0, none⟩) c.p.chs.length c.p.chs.length) := (cell_of_heap ho5 0).trans rfl
            have z0 : w5.cell? ⟨zb, k, none⟩ = some (.int .i64 0) := (cell_of_heap hz5 k).trans (by unfold zeros noughts; rw [List.getElem?_toArray, List.getElem?_replicate, if_pos hlt])
            have f0 := frozen_of_heap hz5 k
            have zo := heap_lt ho5
            have zz := heap_lt hz5
            have H6 := Lib.hid (And.intro b5 (And.intro hz5 (And.intro ho5 (And.intro gz5 (And.intro go5 hne5)))))
            clear e28 hf hF kp5 hz5 ho5 gz5 go5 hne5 b5 zs
            go_upto_region 47 with fail
            obtain ⟨x, hx⟩ : ∃ x, x = n + 1 + more := ⟨_, rfl⟩
            rw [← hx]
            obtain ⟨X6, hX6⟩ : ∃ X, X = w5.setCell ⟨zb, k, none⟩ (.int .i64 x) := ⟨_, rfl⟩
            rw [← hX6]
            have kX : Keep [zb] w5 X6 := by rw [hX6]; exact (Keep.refl _ _).setCell (.inl (by simp)) _
            have bX6 : Below wr.heap.size wr X6 := H6.out.1.trans (kX.below H6.out.1.size (by simp; exact H6.out.2.2.2.1))
            have ho6 := (kX.block _ (heap_lt H6.out.2.2.1) (by simp; exact fun e => H6.out.2.2.2.2.2 e.symm)).trans H6.out.2.2.1
            have E6 := HE5.out.1.below bX6
            obtain ⟨bl, hbl⟩ : ∃ bl, bl = (List.replicate c.p.chs.length (0 : Int)).set k x := ⟨_, rfl⟩
            have hz6 : X6.heap[zb]? = some (.cells (ints bl).toArray 3 (0, 0)) := by
              have e0 : (zeros c.p.chs.length).setIfInBounds k (.int .i64 x) = (ints ((List.replicate c.p.chs.length (0 : Int)).set k x)).toArray := by
                show ((List.replicate c.p.chs.length (Value.int .i64 0)).toArray).setIfInBounds _ _ = _
                rw [List.setIfInBounds_toArray, ints, List.map_set, List.map_replicate]
              rw [hX6, heap_set H6.out.2.1, hbl, e0]
            have hbll : bl.length = c.p.chs.length := by rw [hbl]; simp
            have hbn : BrN c.p.chs.length bl 10 := ⟨hbll, fun y hy => by
              rw [hbl] at hy
              rcases List.mem_or_eq_of_mem_set hy with h | h
              · rw [List.eq_of_mem_replicate h]; omega
              · omega⟩
            have SB6 : SttB X6.heap.size X6 (some ⟨zb, 0, none⟩) c.p.chs.length (some ⟨s.ub, 0, none⟩) c.p.bts.length (st0 c.p bl) := by
              have hS := (HE5.out.2.below bX6).SB
              refine ⟨?_, hS.bu, ⟨by simp [st0, hbll], by omega, fun h => by cases h⟩, hS.c2⟩
              refine ⟨by simp [st0, ints], fun _ => ⟨zb, 0, rfl, heap_lt hz6, fun j u hu => ?_⟩⟩
              rw [Nat.zero_add]
              exact (cell_of_heap hz6 j).trans (by simpa [st0] using hu)
            have krun := E6.runBox HMd.out.1 HMd.out.2.1 HMd.out.2.2.2 SB6 hbn (by decide)
            have hbad : ¬ limOk (foldS c.p c.l k) (getI bl k) := by
              have e : getI bl k = x := by rw [hbl]; simp [getI, hlt]
              rw [e]
              rintro (h | h)
              · rw [HN.out.1] at h; simp only [NL] at h; omega
              · rw [HN.out.1] at h; omega
            have o0 : X6.cell? ⟨ob, 0, none⟩ = some (.slice (some ⟨zb, 0, none⟩) c.p.chs.length c.p.chs.length) := (cell_of_heap ho6 0).trans rfl
            have o1 : X6.cell? ⟨ob, 1, none⟩ = some (.slice (some ⟨s.ub, 0, none⟩) c.p.bts.length c.p.bts.length) := (cell_of_heap ho6 1).trans rfl
            have zo := heap_lt ho6
            obtain ⟨q0, q1, q2, q3, q4, q5, zp, zl⟩ := E6.cells
            have H7 := Lib.hid (And.intro krun (And.intro hbad bX6))
            clear krun hbad bX6 ho6 E6 hz6 hbn SB6 hX6 kX hbl hx z0 f0 zz
            go_wp2_with (go_at_call 19; refine H7.out.1.mono ?_; rintro e w7 (⟨hok, _⟩ | ⟨j, xx, i, A7, c7, B7, d7, _, _, _, _, rfl, b7⟩); exact absurd (hok k hlt) H7.out.2.1; have H8 := Lib.hid b7; clear b7)
            go_roundg (gk - 1)
            case measure => omega
            case rel =>
              have h1 := H7.out.2.2.trans (H8.out.mono H7.out.2.2.size)
              exact ⟨k + 1, by omega, by go_num, HB.out.trans ((h1.mono HB.out.size).alloc (by have := HB.out.size; have := h1.size; omega) _)⟩
        · obtain rfl : k = c.p.chs.length := by omega
          clear E5 S5
          have KW := Lib.hid awakeP_any
          go_wp2_with (go_at_call 15; refine (KW.out _).mono ?_; rintro e w8 ⟨rfl, b8⟩; have HW := Lib.hid b8; clear b8)
          go_ret
          exact ⟨rfl, H2.out.2.2.trans ((HB.out.mono H2.out.2.2.size).trans (HW.out.mono (by have := H2.out.2.2.size; have := HB.out.size; omega)))⟩
end Go.Proofs.Ythmldeningpjbaa
