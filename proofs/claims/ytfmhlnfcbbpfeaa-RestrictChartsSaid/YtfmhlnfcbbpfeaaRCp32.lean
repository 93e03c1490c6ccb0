/- RestrictCharts: a round over the cells of a day (printed by wip/tools/chr.py) -/
import Derived.Test.YtfmhlnfcbbpfeaaRCp30
import Derived.Test.YtfmhlnfcbbpfeaaRCp31
set_option linter.unusedVariables false
namespace Go.Proofs.Ytfmhlnfcbbpfeaa
open Go Go.RowKit Go.Lib Sp
set_option linter.unusedVariables false
set_option linter.unusedSimpArgs false

/-- the day's chart and field so far -/
structure ChF (c : ChC) (W0 w : World) (cb g n : Nat) (wn day : Int) (l : List Cel) (f : List Ice) (Af : Option Addr) (cf : Nat) (qf : List Nat) : Prop where
  st : ChS c W0 w
  hcb : w.heap[cb]? = some (.cells #[.int .i64 wn, .int .i64 1, .int .i64 day, .slice (some ⟨g, 0, none⟩) n n] 114 (0, 0))
  hg : w.heap[g]? = some (.cells (cels l).toArray 123 (0, 0))
  cg : W0.heap.size ≤ cb ∧ W0.heap.size ≤ g ∧ cb ≠ g
  len : l.length = n
  fo : OwnS w 111 4 Af f.length cf (ics f) qf
  fn : ∀ y ∈ qf, W0.heap.size ≤ y ∧ y ≠ cb ∧ y ≠ g
  ok : ∀ x ∈ l, celOk x = true
  hh : ∀ j (h1 : j < f.length) (h2 : j < l.length), hasB l[j] f[j] = true ∧ iceOk f[j] = true
section
variable {c : ChC} {W0 w w' : World} {cb g n : Nat} {wn day : Int} {l : List Cel} {f : List Ice} {Af : Option Addr} {cf : Nat} {qf : List Nat}
theorem ChF.move (h : ChF c W0 w cb g n wn day l f Af cf qf) (E0 : ChE c W0) (st' : ChS c W0 w') {S : List Nat} (hk : Keep S w w') (hS : ∀ x ∈ S, x < W0.heap.size ∨ w.heap.size ≤ x) : ChF c W0 w' cb g n wn day l f Af cf qf := by
  have nb : ∀ y, W0.heap.size ≤ y → y < w.heap.size → y ∉ S := fun y h1 h2 hm => by rcases hS y hm with h3 | h3 <;> omega
  exact ⟨st', (hk.block _ (heap_lt h.hcb) (nb _ h.cg.1 (heap_lt h.hcb))).trans h.hcb, (hk.block _ (heap_lt h.hg) (nb _ h.cg.2.1 (heap_lt h.hg))).trans h.hg, h.cg, h.len, h.fo.keepS hk (fun y hy => nb y (h.fn y hy).1 (h.fo.lt y hy)), h.fn, h.ok, h.hh⟩
theorem ChF.below (h : ChF c W0 w cb g n wn day l f Af cf qf) (E0 : ChE c W0) (hb : Below w.heap.size w w') : ChF c W0 w' cb g n wn day l f Af cf qf := h.move E0 (h.st.below hb E0) (S := []) (Keep.of_below hb) (by simp)
theorem ChF.small (h : ChF c W0 w cb g n wn day l f Af cf qf) : True := trivial
/-- a cell of the chart is written -/
theorem ChF.cell_ (h : ChF c W0 w cb g n wn day l f Af cf qf) (E0 : ChE c W0) {y : Cel} (hy : celOk y = true) (hf : f.length < n) (hk : Keep [g] w w') (hg' : w'.heap[g]? = some (.cells (cels (l.set f.length y)).toArray 123 (0, 0))) : ChF c W0 w' cb g n wn day (l.set f.length y) f Af cf qf := by
  refine ⟨h.st.keep hk (fun x hx => by rw [List.mem_singleton.1 hx]; exact h.cg.2.1) E0, (hk.block _ (heap_lt h.hcb) (by simpa using h.cg.2.2)).trans h.hcb, hg', h.cg, by simpa using h.len, h.fo.keepS hk (fun x hx => by simpa using (h.fn x hx).2.2), h.fn, fun x hx => ?_, fun j h1 h2 => ?_⟩
  · rcases List.mem_or_eq_of_mem_set hx with h3 | h3
    · exact h.ok x h3
    · rw [h3]; exact hy
  · rw [List.getElem_set_ne (by omega)]
    exact h.hh j h1 (by simpa using h2)
/-- an ice is appended to the field -/
theorem ChF.ice_ (h : ChF c W0 w cb g n wn day l f Af cf qf) (E0 : ChE c W0) {i : Ice} {wm : World} (hf : f.length < n) (hi : ∀ h2 : f.length < l.length, hasB l[f.length] i = true ∧ iceOk i = true) (hb : Below w.heap.size w wm) {g' c' : Nat} (o1 : OwnS w' 111 4 (some ⟨g', 0, none⟩) (f.length + 1) c' (ics f ++ [.int .i64 i.con, .int .i64 i.thk, .int .i64 i.rid, .int .i64 i.prs]) [g']) (o2 : g' ∈ qf ∨ wm.heap.size = g') (o4 : Keep qf wm w') :
    ChF c W0 w' cb g n wn day l (f ++ [i]) (some ⟨g', 0, none⟩) c' [g'] := by
  have hm := h.below E0 hb
  have gn : W0.heap.size ≤ g' ∧ g' ≠ cb ∧ g' ≠ g := by
    rcases o2 with o2 | o2
    · exact h.fn g' o2
    · have := heap_lt hm.hcb; have := heap_lt hm.hg; have := hm.st.kp.size; omega
  refine ⟨hm.st.keep o4 (fun x hx => (h.fn x hx).1) E0, (o4.block _ (heap_lt hm.hcb) (fun e => (h.fn _ e).2.1 rfl)).trans hm.hcb, (o4.block _ (heap_lt hm.hg) (fun e => (h.fn _ e).2.2 rfl)).trans hm.hg, h.cg, h.len, ?_, fun y hy => by rw [List.mem_singleton.1 hy]; exact gn, h.ok, fun j h1 h2 => ?_⟩
  · rw [List.length_append, List.length_singleton, show ics (f ++ [i]) = ics f ++ [.int .i64 i.con, .int .i64 i.thk, .int .i64 i.rid, .int .i64 i.prs] from by simp [ics]]
    exact o1
  · rw [List.length_append, List.length_singleton] at h1
    by_cases e : j < f.length
    · rw [List.getElem_append_left e]; exact h.hh j e h2
    · have e' : j = f.length := by omega
      subst e'
      rw [List.getElem_append_right (Nat.le_refl _)]
      simpa using hi h2
end
theorem cels_store8 {w : World} {g : Nat} {l : List Cel} {t : TypeId} {fr : Nat × Nat} (h : w.heap[g]? = some (.cells (cels l).toArray t fr)) {i : Nat} (hi : i < l.length) (y : Cel) :
    ((((((((w.setCell ⟨g, i * 8, none⟩ (.int .i64 y.a0)).setCell ⟨g, i * 8 + 1, none⟩ (.int .i64 y.a1)).setCell ⟨g, i * 8 + 2, none⟩ (.int .i64 y.b0)).setCell ⟨g, i * 8 + 3, none⟩ (.int .i64 y.b1)).setCell ⟨g, i * 8 + 4, none⟩ (.int .i64 y.c0)).setCell ⟨g, i * 8 + 5, none⟩ (.int .i64 y.c1)).setCell ⟨g, i * 8 + 6, none⟩ (.int .i64 y.d0)).setCell ⟨g, i * 8 + 7, none⟩ (.int .i64 y.d1)).heap[g]? = some (.cells (cels (l.set i y)).toArray t fr) :=
  cels_store h hi y
theorem keep8 (w : World) (b o : Nat) (v0 v1 v2 v3 v4 v5 v6 v7 : Value) : Keep [b] w ((((((((w.setCell ⟨b, o, none⟩ v0).setCell ⟨b, o + 1, none⟩ v1).setCell ⟨b, o + 2, none⟩ v2).setCell ⟨b, o + 3, none⟩ v3).setCell ⟨b, o + 4, none⟩ v4).setCell ⟨b, o + 5, none⟩ v5).setCell ⟨b, o + 6, none⟩ v6).setCell ⟨b, o + 7, none⟩ v7) :=
  (((((((((Keep.refl [b] w).setCell (.inl (by simp)) _).setCell (.inl (by simp)) _).setCell (.inl (by simp)) _).setCell (.inl (by simp)) _).setCell (.inl (by simp)) _).setCell (.inl (by simp)) _).setCell (.inl (by simp)) _).setCell (.inl (by simp)) _)
theorem byts_snoc (l : List Int) (x : Int) : byts (l ++ [x]) = byts l ++ [.int .u8 x] := by simp [byts]

/-- a cell is drawn and stored -/
structure FrzW (W1 : World) (g i : Nat) (l : List Cel) (s : Cel) (f : Nat → Bool) (w : World) : Prop where
  kp : Keep [g] W1 w
  ok : f 4 = true → celOk s = true
  hg : w.heap[g]? = some (.cells (cels (if f 6 then l.set i s else l)).toArray 123 (0, 0))
theorem FrzW.other {W1 : World} {g i : Nat} {l : List Cel} {s : Cel} {f : Nat → Bool} {w : World} (h : FrzW W1 g i l s f w) (k : Nat) (hk : k ≠ 4 ∧ k ≠ 6) : FrzW W1 g i l s (upd f k) w := by
  refine ⟨h.kp, ?_, ?_⟩
  · rw [upd_n (Ne.symm hk.1)]; exact h.ok
  · rw [upd_n (Ne.symm hk.2)]; exact h.hg

set_option linter.unusedVariables false
def FrzV (W1 : World) (cb g n i : Nat) (l : List Cel) (Ao : Option Addr) (co : Nat) (s : Cel) : Nat → Value → Prop
  | 0, v => v = .pointer (some ⟨cb, 3, none⟩)
  | 1, v => v = .slice (some ⟨g, 0, none⟩) n n
  | 2, v => v = .int .i64 i
  | 3, v => v = .slice Ao 8 co
  | 4, v => v = .agg (celA s)
  | 5, v => v = .pointer (some ⟨g, i * 8, none⟩)
  | _, _ => True
def FrzR (W1 : World) (cb g n i : Nat) (l : List Cel) (Ao : Option Addr) (co : Nat) (s : Cel) (f : Nat → Bool) (w : World) : Prop := FrzW W1 g i l s f w
set_option maxRecDepth 100000 in
set_option maxHeartbeats 4000000 in
theorem charts_r {c : ChC} {W0 w0 : World} {cb g n i : Nat} {wn day : Int} {l : List Cel} {f : List Ice} {Af : Option Addr} {cf : Nat} {qf : List Nat} (E0 : ChE c W0) (h : ChF c W0 w0 cb g n wn day l f Af cf qf) (hi : f.length = i) (hin : i < n) (hn4 : n ≤ 4) (hday : 0 ≤ day ∧ day ≤ 10) (hkb : Bytes c.kl) (hkl : c.kl.length ≤ 9223372036854775800) (hkc : c.kl.length ≤ c.ck ∧ c.ck ≤ 9223372036854775807) {s0 s1 s3 s4 s5 s6 s7 s8 s9 s10 s11 s13 s14 s15 s16 s17 s18 s19 s20 s21 s24 s26 s27 s28 s29 s30 s31 s32 s33 s34 s35 s36 s37 s38 s39 s40 s41 s42 s43 s44 s45 s46 s47 s48 s49 s50 s51 s52 s53 s54 s55 s56 s57 s58 s59 s60 s61 s62 s63 s64 s65 s66 s67 s68 s69 s70 s71 s72 s73 s74 s75 s76 s77 s78 s79 s80 s81 s82 s83 s84 s85 s86 s87 s88 s89 s90 s91 s92 s93 s94 s95 s96 s97 s98 s99 s100 s101 s102 s105 s106 s107 s108 s109 s110 s111 s112 s113 s114 s115 s116 s117 s118 s119 s120 s121 s122 s123 s124 s125 s126 s127 s128 s129 s130 s131 s132 s133 s134 s135 s136 s137 s138 s139 s140 s141 s142 s143 s144 s145 s146 s147 s148 s149 s150 s151 s152 s153 s154 s155 s156 s157 s158 s159 s160 s161 s162 s163 s164 s165 s166 s167 s168 s169 s170 s171 s172 s173 s174 s175 s176 s177 s178 s179 s180 s181 s182 s183 s184 s185 s186 s187 s188 s189 s190 s191 s192 s193 s194 s195 s196 s197 s198 s199 s200 s201 s202 s203 s204 s205 s206 s207 s208 s209 s210 s211 s212 s213 s214 s215 s216 s217 s218 s219 s220 s221 s222 s223 s224 s225 s226 s227 s228 s229 s230 s231 s232 s233 s234 s235 s236 s237 s238 s239 s240 s241 s242 s243 s244 s245 s246 s247 s248 s249 s250 s251 s252 s253 s254 s255 s256 s257 s258 s259 s260 s261 s262 s263 s264 s265 s266 s267 s268 s269 s270 s271 s272 s273 s274 s275 s276 s277 s278 s279 s280 s281 s282 s283 s284 s285 s286 s287 s288 s289 s290 s291 s292 s293 s294 s295 s296 s297 s298 s299 s300 s301 s302 s303 s304 s305 s306 s307 s308 s309 s310 s311 s312 s313 s314 s315 s316 s317 s318 s319 s320 s321 s322 s323 s324 s325 s326 s327 s328 s329 s330 s331 s332 s333 s334 s335 s336 s337 s338 s339 s340 s341 s342 s343 s344 s345 s346 s347 s348 s349 : Value} {Q0 : Exit → Act → World → Prop} {Inv : Act → World → Prop}
    (hInv : ∀ (t26 t27 t28 t105 t106 t107 t108 t109 t110 t111 t112 t113 t114 t115 t116 t117 t118 t119 t120 t121 t122 t123 t124 t125 t126 t127 t128 t129 t130 t131 t132 t133 t134 t135 t136 t137 t138 t139 t140 t141 t142 t143 t144 : Value) (Af' : Option Addr) (cf' : Nat) (qf' : List Nat) (l' : List Cel) (f' : List Ice) (w' : World), f'.length = i + 1 ∧ ChF c W0 w' cb g n wn day l' f' Af' cf' qf' → Inv ⟨#[s0, s1, .slice c.Ak c.kl.length c.ck, s3, s4, s5, s6, s7, s8, s9, s10, s11, fnAt c.ibm c.lbm, s13, s14, s15, s16, s17, s18, s19, s20, s21, .int .i64 day, .pointer (some ⟨cb, 0, none⟩), s24, .slice Af' (i + 1) cf', t26, t27, t28, s29, s30, s31, s32, s33, s34, s35, s36, s37, s38, s39, s40, s41, s42, s43, s44, s45, s46, s47, s48, s49, s50, s51, s52, s53, s54, s55, s56, s57, s58, s59, s60, s61, s62, s63, s64, s65, s66, s67, s68, s69, s70, s71, s72, s73, s74, s75, s76, s77, s78, s79, s80, s81, s82, s83, s84, s85, s86, s87, s88, s89, s90, s91, s92, s93, s94, s95, s96, s97, s98, s99, s100, s101, s102, .int .i64 n, .int .i64 ((i : Int) + 1), t105, t106, t107, t108, t109, t110, t111, t112, t113, t114, t115, t116, t117, t118, t119, t120, t121, t122, t123, t124, t125, t126, t127, t128, t129, t130, t131, t132, t133, t134, t135, t136, t137, t138, t139, t140, t141, t142, t143, t144, s145, s146, s147, s148, s149, s150, s151, s152, s153, s154, s155, s156, s157, s158, s159, s160, s161, s162, s163, s164, s165, s166, s167, s168, s169, s170, s171, s172, s173, s174, s175, s176, s177, s178, s179, s180, s181, s182, s183, s184, s185, s186, s187, s188, s189, s190, s191, s192, s193, s194, s195, s196, s197, s198, s199, s200, s201, s202, s203, s204, s205, s206, s207, s208, s209, s210, s211, s212, s213, s214, s215, s216, s217, s218, s219, s220, s221, s222, s223, s224, s225, s226, s227, s228, s229, s230, s231, s232, s233, s234, s235, s236, s237, s238, s239, s240, s241, s242, s243, s244, s245, s246, s247, s248, s249, s250, s251, s252, s253, s254, s255, s256, s257, s258, s259, s260, s261, s262, s263, s264, s265, s266, s267, s268, s269, s270, s271, s272, s273, s274, s275, s276, s277, s278, s279, s280, s281, s282, s283, s284, s285, s286, s287, s288, s289, s290, s291, s292, s293, s294, s295, s296, s297, s298, s299, s300, s301, s302, s303, s304, s305, s306, s307, s308, s309, s310, s311, s312, s313, s314, s315, s316, s317, s318, s319, s320, s321, s322, s323, s324, s325, s326, s327, s328, s329, s330, s331, s332, s333, s334, s335, s336, s337, s338, s339, s340, s341, s342, s343, s344, s345, s346, s347, s348, s349], []⟩ w') :
    Code.wp Try.prog (loopBody Try.f12 2) (Exit.then Inv Q0) ⟨#[s0, s1, .slice c.Ak c.kl.length c.ck, s3, s4, s5, s6, s7, s8, s9, s10, s11, fnAt c.ibm c.lbm, s13, s14, s15, s16, s17, s18, s19, s20, s21, .int .i64 day, .pointer (some ⟨cb, 0, none⟩), s24, .slice Af i cf, s26, s27, s28, s29, s30, s31, s32, s33, s34, s35, s36, s37, s38, s39, s40, s41, s42, s43, s44, s45, s46, s47, s48, s49, s50, s51, s52, s53, s54, s55, s56, s57, s58, s59, s60, s61, s62, s63, s64, s65, s66, s67, s68, s69, s70, s71, s72, s73, s74, s75, s76, s77, s78, s79, s80, s81, s82, s83, s84, s85, s86, s87, s88, s89, s90, s91, s92, s93, s94, s95, s96, s97, s98, s99, s100, s101, s102, .int .i64 n, .int .i64 i, s105, s106, s107, s108, s109, s110, s111, s112, s113, s114, s115, s116, s117, s118, s119, s120, s121, s122, s123, s124, s125, s126, s127, s128, s129, s130, s131, s132, s133, s134, s135, s136, s137, s138, s139, s140, s141, s142, s143, s144, s145, s146, s147, s148, s149, s150, s151, s152, s153, s154, s155, s156, s157, s158, s159, s160, s161, s162, s163, s164, s165, s166, s167, s168, s169, s170, s171, s172, s173, s174, s175, s176, s177, s178, s179, s180, s181, s182, s183, s184, s185, s186, s187, s188, s189, s190, s191, s192, s193, s194, s195, s196, s197, s198, s199, s200, s201, s202, s203, s204, s205, s206, s207, s208, s209, s210, s211, s212, s213, s214, s215, s216, s217, s218, s219, s220, s221, s222, s223, s224, s225, s226, s227, s228, s229, s230, s231, s232, s233, s234, s235, s236, s237, s238, s239, s240, s241, s242, s243, s244, s245, s246, s247, s248, s249, s250, s251, s252, s253, s254, s255, s256, s257, s258, s259, s260, s261, s262, s263, s264, s265, s266, s267, s268, s269, s270, s271, s272, s273, s274, s275, s276, s277, s278, s279, s280, s281, s282, s283, s284, s285, s286, s287, s288, s289, s290, s291, s292, s293, s294, s295, s296, s297, s298, s299, s300, s301, s302, s303, s304, s305, s306, s307, s308, s309, s310, s311, s312, s313, s314, s315, s316, s317, s318, s319, s320, s321, s322, s323, s324, s325, s326, s327, s328, s329, s330, s331, s332, s333, s334, s335, s336, s337, s338, s339, s340, s341, s342, s343, s344, s345, s346, s347, s348, s349], []⟩ w0 := by
  conv => arg 2; whnf
  obtain ⟨iU, hU0, hU1, hU2, hU3⟩ := info_parts infoU8
  obtain ⟨iI, hI0, hI1, hI2, hI3⟩ := info_parts infoIce
  have HI := Lib.hid hInv
  have HE := Lib.hid E0
  have HF := Lib.hid h
  have HK := Lib.hid (And.intro hkb (And.intro hi ((E0.at h.st).rk)))
  have n1 : (0 : Int) ≤ (i : Int) := by omega
  have n2 : (i : Int) < (n : Int) := by omega
  clear hInv E0 h hkb hi
  go_wp2_with fail
  go_loopg [27, 107] (8) (fun gg o m wx => ∃ (k : Nat) (Ao : Option Addr) (co : Nat) (bs : List Int) (q : List Nat), k ≤ 8 ∧ gg = 8 - k ∧ m = .int .i64 k ∧ o = .slice Ao k co ∧ OwnA wx 5 Ao k co (byts bs) q ∧ Bytes bs ∧ (∀ y ∈ q, w0.heap.size ≤ y) ∧ ChS c W0 wx ∧ Keep [c.ibm] w0 wx)
  case atStart => exact ⟨0, none, 0, [], [], by omega, rfl, rfl, rfl, OwnA.nil _ _, (fun x hx => by cases hx), (by simp), HF.out.st, Keep.refl _ _⟩
  case round =>
    obtain ⟨k, Ao, co, bs, q, hk, hg, rfl, rfl, hown, hbs, hq, hst, hK⟩ := hrel
    by_cases hlt : k < 8
    · have n3 : (k : Int) < 8 := by omega
      have HS := Lib.hid (And.intro hown (And.intro hbs (And.intro hq (And.intro hst hK))))
      clear hown hbs hq hst hK
      go_wp2_with (first
        | (go_at_call 114
           refine (next_some 256 HS.out.2.2.2.1.nm (by decide)).mono ?_
           rintro e w2 ⟨x, rfl, ⟨x1, x2⟩, x3, x4, x5⟩
           have ex : IntKind.u8.wrap x = x := IntWalk.u8_in x (by omega))
        | (at_builtin
           refine wpList_append_A rfl (.tmp 109) (.tmp 113) 22 rfl iU _ 1 Try.underlying22 hU0 hU1 hU2 hU3 rfl (A := Ao) (n := k) (c := co) (xs := byts bs) (fp := q) (by simp [Act.eval]) _ (by simp [Act.eval]) (.int .u8 x) ((HS.out.1.keepS x4 (fun y hy hm => by have := HS.out.2.2.1 y hy; have := HE.out.nm.lt; have := HF.out.st.kp.size; simp at hm; omega)).alloc _) (cell_new_one _ _ _) rfl (by omega) (by omega) ?_
           intro g1 off1 c1 w3 h1 h2 h3 h4
           have HQ := Lib.hid (And.intro h1 (And.intro h2 h4))
           clear h1 h2 h3 h4))
      go_roundg (7 - k)
      case measure => omega
      case rel =>
        obtain ⟨h1, h2, h4⟩ := HQ.out
        obtain ⟨hown, hbs, hq, hst, hK⟩ := HS.out
        have st2 := (hst.next x3 x4 HE.out).below ((Below.refl _ _).alloc (Nat.le_refl _) (.cells #[.int .u8 x] 5)) HE.out
        have kk := (hK.trans x4 (fun y hy => .inl hy)).alloc (.cells #[.int .u8 x] 5)
        have q4 : ∀ y ∈ q, W0.heap.size ≤ y := fun y hy => by have := hq y hy; have := HF.out.st.kp.size; omega
        refine ⟨k + 1, some ⟨g1, off1, none⟩, c1, bs ++ [x], [g1], by omega, by omega, by go_num, rfl, by rw [byts_snoc]; exact h1, ?_, ?_, st2.keep h4 q4 HE.out, kk.trans h4 (fun y hy => .inr (hq y hy))⟩
        · intro y hy
          rcases List.mem_append.1 hy with hy | hy
          · exact hbs y hy
          · rw [List.mem_singleton.1 hy]; omega
        · intro y hy
          rw [List.mem_singleton.1 hy]
          rcases h2 with h2 | h2
          · exact hq _ h2
          · have := kk.size; omega
    · obtain rfl : k = 8 := by omega
      obtain ⟨w1, rfl⟩ : ∃ w1, w1 = wr := ⟨_, rfl⟩
      have F1 := HF.out.move HE.out hst hK (fun y hy => by rw [List.mem_singleton.1 hy]; exact .inl HE.out.nm.lt.1)
      have qg : ∀ y ∈ q, y ≠ g := fun y hy e => by have := hq y hy; have := heap_lt HF.out.hg; omega
      have c3 := (cell_of_heap F1.hcb 3).trans rfl
      have hbl : bs.length = 8 := by have := hown.1; simpa [byts] using this
      have HX := Lib.hid (And.intro c3 (And.intro F1.cg.2.2 (And.intro (show Rd w1 1 Ao bs.length (byts bs) from by rw [hbl]; exact hown.rd) (And.intro hbs (And.intro (show ∀ b off, Ao = some ⟨b, off, none⟩ → b ≠ g from fun b off e => qg b (hown.mem_ (by decide) e)) hbl)))))
      have HF1 := Lib.hid F1
      have HN := Lib.hid (And.intro n1 (And.intro n2 (show i < l.length from by rw [HF.out.len]; exact hin)))
      clear hown hbs hq hst hK F1 qg c3 hbl
      go_upto_region 31 with fail
      refine wp_region_steps (σ := Cel) (by kernel_rfl) (by kernel_rfl) (fun sg jx vx _ => FrzV w1 cb g n i l Ao co sg jx vx) (fun sg ly wx => FrzW w1 g i l sg ly wx) celW ?_ ?_ ?_
      · exact ⟨(Keep.refl _ _).drew, (fun h => by cases h), by rw [if_neg (by simp)]; exact HF1.out.hg⟩
      · simp only [AllFrom, Nat.zero_add, Nat.reduceAdd]
        refine ⟨?_, ?_, ?_, ?_, ?_, ?_, ?_, trivial⟩
        · refine step_pure fun sg ly a wr hl hd hW hF => ?_
          have et23 := hF.old 23 (by kernel_rfl)
          simp [Act.eval] at et23
          exact ⟨hW.other _ (by decide), _, by go_simp, rfl⟩
        · refine step_pure fun sg ly a wr hl hd hW hF => ?_
          simp [Region.binds] at hd
          have et116 := hF.new 0 116 (by simp [hd]) rfl
          simp [FrzV, Act.eval] at et116
          have c0 := hW.kp.cell HX.out.1 (by simpa using HX.out.2.1)
          exact ⟨hW.other _ (by decide), _, by go_simp, rfl⟩
        · refine step_pure fun sg ly a wr hl hd hW hF => ?_
          have et26 := hF.old 26 (by kernel_rfl)
          simp [Act.eval] at et26
          exact ⟨hW.other _ (by decide), _, by go_simp, rfl⟩
        · refine step_pure fun sg ly a wr hl hd hW hF => ?_
          have et27 := hF.old 27 (by kernel_rfl)
          simp [Act.eval] at et27
          exact ⟨hW.other _ (by decide), _, by go_simp, rfl⟩
        · refine step_call fun sg ly a wr hl hd hW hF => ?_
          simp [Region.binds] at hd
          have et119 := hF.new 3 119 (by simp [hd]) rfl
          simp [FrzV, Act.eval] at et119
          have n6 := hF.notYet 4 6 hl (by kernel_rfl)
          refine ⟨70, #[.slice Ao 8 co], by go_simp, ?_⟩
          have kf := Frozen_any Ao co bs wr (keep_rd0 hW.kp HX.out.2.2.1 (fun h0 b off e hm => HX.out.2.2.2.2.1 b off e (List.mem_singleton.1 hm))) HX.out.2.2.2.1 (by rw [HX.out.2.2.2.2.2]; omega)
          rw [HX.out.2.2.2.2.2] at kf
          refine kf.mono ?_
          rintro e w2' ⟨x, rfl, x1, x2⟩
          refine ⟨_, x, rfl, ⟨hW.kp.trans (Keep.of_below (S := []) x2) (by simp), fun _ => x1, by rw [show upd ly 4 6 = ly 6 from rfl, n6]; have hh := hW.hg; rw [n6] at hh; exact (x2.block _ (heap_lt hh)).trans hh⟩, rfl, ?_⟩
          intro i u hi h
          have i0 : i ≠ 4 := by rintro rfl; rw [hl] at hi; cases hi
          unfold FrzV at h ⊢
          split at h <;> first | exact h | exact absurd rfl i0
        · refine step_pure fun sg ly a wr hl hd hW hF => ?_
          simp [Region.binds] at hd
          have et117 := hF.new 1 117 (by simp [hd]) rfl
          simp [FrzV, Act.eval] at et117
          have et118 := hF.new 2 118 (by simp [hd]) rfl
          simp [FrzV, Act.eval] at et118
          have n1 := HN.out.1
          have n2 := HN.out.2.1
          have n3 := HN.out.2.2
          exact ⟨hW.other _ (by decide), _, by go_simp, rfl⟩
        · refine step_store rfl fun sg ly a wr hl hd hW hF => ?_
          simp [Region.binds] at hd
          have et121 := hF.new 5 121 (by simp [hd]) rfl
          simp [FrzV, Act.eval] at et121
          have et120 := hF.new 4 120 (by simp [hd]) rfl
          simp [FrzV, Act.eval] at et120
          have y4 : ly 4 = true := by simp [hd]
          have hq := hW.hg
          rw [hl] at hq
          simp only [Bool.false_eq_true, if_false] at hq
          obtain ⟨k0, k1, k2, k3, k4, k5, k6, k7⟩ := cels_get HN.out.2.2
          have c0 : wr.cell? ⟨g, i * 8, none⟩ = _ := (cell_of_heap hq (i * 8)).trans (List.getElem?_toArray.trans k0)
          have f0 := frozen_of_heap hq (i * 8)
          have c1 : wr.cell? ⟨g, i * 8 + 1, none⟩ = _ := (cell_of_heap hq (i * 8 + 1)).trans (List.getElem?_toArray.trans k1)
          have f1 := frozen_of_heap hq (i * 8 + 1)
          have c2 : wr.cell? ⟨g, i * 8 + 2, none⟩ = _ := (cell_of_heap hq (i * 8 + 2)).trans (List.getElem?_toArray.trans k2)
          have f2 := frozen_of_heap hq (i * 8 + 2)
          have c3 : wr.cell? ⟨g, i * 8 + 3, none⟩ = _ := (cell_of_heap hq (i * 8 + 3)).trans (List.getElem?_toArray.trans k3)
          have f3 := frozen_of_heap hq (i * 8 + 3)
          have c4 : wr.cell? ⟨g, i * 8 + 4, none⟩ = _ := (cell_of_heap hq (i * 8 + 4)).trans (List.getElem?_toArray.trans k4)
          have f4 := frozen_of_heap hq (i * 8 + 4)
          have c5 : wr.cell? ⟨g, i * 8 + 5, none⟩ = _ := (cell_of_heap hq (i * 8 + 5)).trans (List.getElem?_toArray.trans k5)
          have f5 := frozen_of_heap hq (i * 8 + 5)
          have c6 : wr.cell? ⟨g, i * 8 + 6, none⟩ = _ := (cell_of_heap hq (i * 8 + 6)).trans (List.getElem?_toArray.trans k6)
          have f6 := frozen_of_heap hq (i * 8 + 6)
          have c7 : wr.cell? ⟨g, i * 8 + 7, none⟩ = _ := (cell_of_heap hq (i * 8 + 7)).trans (List.getElem?_toArray.trans k7)
          have f7 := frozen_of_heap hq (i * 8 + 7)
          have zq := heap_lt hq
          exact ⟨_, sg, .skip, by go_simp, .inl rfl, ⟨hW.kp.trans (keep8 wr g (i * 8) (.int .i64 sg.a0) (.int .i64 sg.a1) (.int .i64 sg.b0) (.int .i64 sg.b1) (.int .i64 sg.c0) (.int .i64 sg.c1) (.int .i64 sg.d0) (.int .i64 sg.d1)) (fun x hx => .inl hx), hW.ok, by rw [show upd ly 6 6 = true from rfl, if_pos rfl]; exact cels_store8 hq HN.out.2.2 sg⟩, fun _ _ _ h => h⟩
      intro sg a5 w5 hWW hF
      obtain ⟨f5, hf5, rfl⟩ := hF.lit
      have hg5 := hWW.hg
      simp only [List.length_cons, List.length_nil, Nat.reduceAdd, Nat.reduceLT, decide_true, if_true] at hg5
      have hF5 : ChF c W0 w5 cb g n wn day (l.set i sg) f Af cf qf := by
        have := HF1.out.cell_ HE.out (hWW.ok rfl) (by rw [HK.out.2.1]; exact hin) hWW.kp (by rw [HK.out.2.1]; exact hg5)
        rwa [HK.out.2.1] at this
      have HF5 := Lib.hid (And.intro hF5 (hWW.ok rfl))
      have HRK := Lib.hid ((HE.out.at hF5.st).rk)
      clear hf5 hF hWW hg5 hF5 HX
      simp only [List.filterMap, List.foldl, List.setIfInBounds_toArray, List.set_cons_succ, List.set_cons_zero]
      go_upto_if 125 with fail
      go_cut [28] from 123 to 133 (fun vv wx => w5 = wx ∧ ∃ (A2 : Option Addr) (c2 : Nat) (b2 : List Int), vv = .slice A2 b2.length c2 ∧ Rd w5 1 A2 b2.length (byts b2) ∧ Bytes b2 ∧ b2.length ≤ 9223372036854775800)
      case first =>
        by_cases hk0 : c.kl.length = 0
        · have m1 : ¬ (0 : Int) < (c.kl.length : Int) := by omega
          clear hk0
          go_wp2_with fail
          go_meet
          exact ⟨rfl, c.Ak, c.ck, c.kl, rfl, HRK.out, HK.out.1, hkl⟩
        · have m1 : (0 : Int) < (c.kl.length : Int) := by omega
          obtain ⟨bk, ok, eA, zbk, gk⟩ := HRK.out.2 (by omega)
          obtain ⟨Lk, hLk⟩ : ∃ Lk, Lk = c.kl.length := ⟨_, rfl⟩
          obtain ⟨dn, rfl⟩ := Int.eq_ofNat_of_zero_le hday.1
          obtain ⟨z, hz⟩ : ∃ z, z = (dn + i) % Lk := ⟨_, rfl⟩
          have hzl : z < Lk := by rw [hz]; exact Nat.mod_lt _ (by omega)
          have n8 : z ≤ dn + i := by rw [hz]; exact Nat.mod_le _ _
          have hrd2 : Rd w5 1 (some ⟨bk, ok + z, none⟩) (Lk - z) (((byts c.kl).drop z).take (Lk - z)) := by
            have h1 := HRK.out
            rw [eA, ← hLk] at h1
            exact rd_sub (a := z) (m := Lk - z) h1 (by omega) zbk gk
          have e2 : ((byts c.kl).drop z).take (Lk - z) = byts (c.kl.drop z) := by
            rw [List.take_of_length_le (by simp [byts]; omega)]; simp [byts, List.map_drop]
          rw [e2] at hrd2
          have e3 : (c.kl.drop z).length = Lk - z := by rw [List.length_drop, hLk]
          have hbd : Bytes (c.kl.drop z) := fun y hy => HK.out.1 y (List.mem_of_mem_drop hy)
          have HR2 := Lib.hid (And.intro hrd2 (And.intro e3 (And.intro hbd (show Lk - z ≤ 9223372036854775800 from by omega))))
          have t1 : Int.tmod ((dn : Int) + (i : Int)) (Lk : Int) = (z : Int) := by
            rw [Int.tmod_eq_emod_of_nonneg (by omega), hz]; simp
          have hzi : IntKind.i64.wrap (z : Int) = (z : Int) := IntWalk.i64_in _ (by omega)
          have ew : IntKind.i64.wrap ((dn : Int) + (i : Int)) = (dn : Int) + (i : Int) := IntWalk.i64_in _ (by omega)
          have n3 : (0 : Int) ≤ (z : Int) := by omega
          have n4 : (z : Int) ≤ (Lk : Int) := by omega
          have n5 : Lk ≤ c.ck := by omega
          have n6 : (c.ck = z) = False := eq_false (by omega)
          have n7 : ¬ (Lk : Int) = 0 := by omega
          have n9 : z ≤ Lk := by omega
          have m2 : (0 : Int) < (Lk : Int) := by omega
          have HLk := Lib.hid hLk
          have HeA := Lib.hid eA
          rw [eA, ← hLk]
          clear hk0 gk hz hrd2 e2 e3 hbd zbk m1 hLk eA
          go_wp2_with fail
          rw [HLk.out, ← HeA.out]
          go_meet
          exact ⟨rfl, some ⟨bk, ok + z, none⟩, c.ck - z, c.kl.drop z, by rw [List.length_drop], by rw [HR2.out.2.1]; exact HR2.out.1, HR2.out.2.2.1, by rw [HR2.out.2.1]; exact HR2.out.2.2.2⟩
      case rest =>
      obtain ⟨rfl, A2, c2, b2, rfl, r2, hb2, hl2⟩ := hcut
      have c3 := (cell_of_heap HF5.out.1.hcb 3).trans rfl
      have hil : i < (l.set i sg).length := by rw [List.length_set]; exact HN.out.2.2
      obtain ⟨k0, k1, k2, k3, k4, k5, k6, k7⟩ := cels_get hil
      rw [List.getElem_set_self] at k0 k1 k2 k3 k4 k5 k6 k7
      have d0 : w5.cell? ⟨g, i * 8, none⟩ = _ := (cell_of_heap HF5.out.1.hg (i * 8)).trans (List.getElem?_toArray.trans k0)
      have d1 : w5.cell? ⟨g, i * 8 + 1, none⟩ = _ := (cell_of_heap HF5.out.1.hg (i * 8 + 1)).trans (List.getElem?_toArray.trans k1)
      have d2 : w5.cell? ⟨g, i * 8 + 2, none⟩ = _ := (cell_of_heap HF5.out.1.hg (i * 8 + 2)).trans (List.getElem?_toArray.trans k2)
      have d3 : w5.cell? ⟨g, i * 8 + 3, none⟩ = _ := (cell_of_heap HF5.out.1.hg (i * 8 + 3)).trans (List.getElem?_toArray.trans k3)
      have d4 : w5.cell? ⟨g, i * 8 + 4, none⟩ = _ := (cell_of_heap HF5.out.1.hg (i * 8 + 4)).trans (List.getElem?_toArray.trans k4)
      have d5 : w5.cell? ⟨g, i * 8 + 5, none⟩ = _ := (cell_of_heap HF5.out.1.hg (i * 8 + 5)).trans (List.getElem?_toArray.trans k5)
      have d6 : w5.cell? ⟨g, i * 8 + 6, none⟩ = _ := (cell_of_heap HF5.out.1.hg (i * 8 + 6)).trans (List.getElem?_toArray.trans k6)
      have d7 : w5.cell? ⟨g, i * 8 + 7, none⟩ = _ := (cell_of_heap HF5.out.1.hg (i * 8 + 7)).trans (List.getElem?_toArray.trans k7)
      have zg := heap_lt HF5.out.1.hg
      have zcb := heap_lt HF5.out.1.hcb
      have HS := Lib.hid (Some_any sg HF5.out.2 A2 c2 b2 w5 r2 hb2 (by omega))
      clear r2 hb2 hl2 k0 k1 k2 k3 k4 k5 k6 k7
      go_wp2_with (first
        | (go_at_call 71
           refine HS.out.mono ?_
           rintro e w6 ⟨y, rfl, y1, y2, y3⟩
           have HY := Lib.hid (And.intro y1 (And.intro y2 y3))
           clear y1 y2 y3)
        | (at_builtin
           refine wpList_append_S (size := 4) rfl (.tmp 134) (.tmp 142) 133 rfl iI _ 32 Try.underlying133 hI0 hI1 hI2 (by decide) hI3 rfl (A := Af) (n := i) (c := cf) (xs := ics f) (fp := qf) (by simp [Act.eval]) ⟨w6.heap.size, 0, none⟩ (by simp [Act.eval]) [.int .i64 y.con, .int .i64 y.thk, .int .i64 y.rid, .int .i64 y.prs] ((by have := HF5.out.1.fo; rw [HK.out.2.1] at this; exact (this.keepS (Keep.of_below (S := []) HY.out.2.2) (by simp)).alloc _)) rfl ?_ (by simp [Value.oneCell']) (by omega) (by omega) ?_
           · intro j v hv
             rw [show (⟨w6.heap.size, 0, none⟩ : Addr).add j = ⟨w6.heap.size, j, none⟩ from by simp [Addr.add]; omega, World.cell?_alloc_new]
             simpa using hv
           intro g1 c1 w7 h1 h2 h3 h4
           have HQ := Lib.hid (And.intro h1 (And.intro h2 h4))
           clear h1 h2 h3 h4))
      obtain ⟨h1, h2, h4⟩ := HQ.out
      have hfin := HF5.out.1.ice_ HE.out (i := y) (by rw [HK.out.2.1]; exact hin) (fun hq2 => by
        have e1 : (l.set i sg)[f.length]'hq2 = sg := by
          have hi2 := HK.out.2.1
          subst hi2
          exact List.getElem_set_self _
        rw [e1]; exact ⟨HY.out.2.1, HY.out.1⟩) (HY.out.2.2.alloc HY.out.2.2.size _) (by rw [HK.out.2.1]; exact h1) h2 h4
      exact HI.out _ _ _ _ _ _ _ _ _ _ _ _ _ _ _ _ _ _ _ _ _ _ _ _ _ _ _ _ _ _ _ _ _ _ _ _ _ _ _ _ _ _ _ _ _ _ _ _ _ ⟨by rw [List.length_append, HK.out.2.1]; rfl, hfin⟩
end Go.Proofs.Ytfmhlnfcbbpfeaa
