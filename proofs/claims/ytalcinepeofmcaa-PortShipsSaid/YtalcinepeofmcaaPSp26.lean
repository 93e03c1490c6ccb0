import Derived.Test.YtalcinepeofmcaaPSp25
set_option linter.unusedVariables false
set_option linter.unusedSimpArgs false
set_option maxRecDepth 100000
set_option maxHeartbeats 40000000
namespace Go.Proofs.Ytalcinepeofmcaa
open Go Go.RowKit Go.Lib Sp Pt
open Hu
theorem flat_set {T : Type} {f : T → List Value} {s : Nat} (hf : ∀ x, (f x).length = s) : ∀ {l : List T} {k : Nat} (hk : k < l.length) {j : Nat} (hj : j < s) {v : Value} {x : T} (hx : f x = (f l[k]).set j v), (l.flatMap f).set (k*s+j) v = (l.set k x).flatMap f
  | y :: l, 0, _, j, hj, v, x, hx => by
    rw [List.flatMap_cons, Nat.zero_mul, Nat.zero_add, List.set_append_left _ _ (by rw [hf]; exact hj), List.set_cons_zero, List.flatMap_cons, hx]; rfl
  | y :: l, k + 1, hk, j, hj, v, x, hx => by
    have e : (k+1)*s + j = s + (k*s + j) := by rw [Nat.add_mul]; omega
    rw [List.flatMap_cons, e, List.set_append_right _ _ (by rw [hf]; omega), hf, Nat.add_sub_cancel_left, List.set_cons_succ, List.flatMap_cons];rw [flat_set hf (l := l) (k := k) (by simpa using hk) hj (x := x) (by simpa using hx)]
def mixC (l : List Cal) (m : Int) (k : Nat) : List Cal := (l.take k).map (most1 m) ++ l.drop k
theorem mixC_len (l : List Cal) (m : Int) (k : Nat) : (mixC l m k).length = l.length := by simp [mixC]; omega
theorem mixC_zero (l : List Cal) (m : Int) : mixC l m 0 = l := by simp [mixC]
theorem mixC_all (l : List Cal) (m : Int) : mixC l m l.length = l.map (most1 m) := by simp [mixC]
theorem mixC_step {l : List Cal} {m : Int} {k : Nat} (hk : k < l.length) : (cacs (mixC l m k)).set (k*6+4) (.int .i64 m) = cacs (mixC l m (k + 1)) := by
  have hl : k < (mixC l m k).length := by rw [mixC_len]; exact hk
  have hg' : (mixC l m k)[k]? = some l[k] := by
    unfold mixC;rw [List.getElem?_append_right (by simp; omega)];simp only [List.length_map, List.length_take, List.getElem?_drop];rw [show k + (k - min k l.length) = k from by omega];exact List.getElem?_eq_getElem hk
  have hg : (mixC l m k)[k] = l[k] := by
    have := List.getElem?_eq_getElem hl;rw [hg'] at this;injection this with e
    exact e.symm
  have h1 := flat_set (f := cac) (s := 6) (fun _ => rfl) (l := mixC l m k) (k := k) hl (j := 4) (by decide) (v := .int .i64 m) (x := most1 m l[k]) (by rw [hg]; rfl);rw [h1]
  congr 1
  unfold mixC;rw [List.set_append_right _ _ (by simp; omega), List.length_map, List.length_take, Nat.min_eq_left (by omega), Nat.sub_self, List.drop_eq_getElem_cons hk, List.set_cons_zero, List.take_succ_eq_append_getElem hk, List.map_append, List.append_assoc];rfl
def Sh11V (wr : World) (h : ShC) (t : Int) (z : Bool) : Nat → Value → Prop
  | 0, v => v = .agg (shpV h.At h.ct h.Aw h.cw h.Ai h.ci h.s)
  | 1, v => v = .int .i64 t
  | 2, v => v = .int .i64 t
  | 3, v => v = .agg (justV (lvl t))
  | 4, v => v = .tuple #[.bool z, .bool z, .int .i64 0]
  | 5, v => v = .tuple #[.bool z, .bool z, .int .i64 0]
  | 6, v => v = .bool z
  | 7, v => v = .bool z
  | 8, v => v = .int .i64 0
  | 9, v => v = .bool z
  | 10, v => v = .bool z
  | 11, v => v = .int .i64 0
  | _, _ => True
def Sh11W (wr : World) (h : ShC) (t : Int) (z : Bool) (l : Nat → Bool) (w : World) : Prop := Below wr.heap.size wr w
theorem ships_b {h : ShC} {wr : World} {m t : Int} (S : ShE h wr) (ok : shipE h.s = 0) (grt : Grt (fun n => makes h.s (lvl n) true 10) 0 400 m) (ht : 0 ≤ t ∧ t ≤ 400) (htm : t ≤ m + 1) (hm : 0 ≤ m ∧ m ≤ 400) {s0 s1 s2 s3 s4 s5 s6 s7 s8 s11 s12 s13 s14 s16 s17 s18 s19 s20 s21 s22 s23 s24 s25 s26 s27 s28 s29 s30 s31 s32 s33 s34 s35 s36 s37 s38 s39 s40 s41 s42 s43 s44 s45 s46 s47 s48 s49 s50 s51 s52 s53 s54 s55 s56 s57 s58 s59 s60 s61 s62 s63 s64 s65 s66 s67 s68 s69 s70 s71 s72 s73 s74 s75 s76 s77 s78 s79 s80 s81 s82 s83 s84 s85 s86 s87 s88 s89 s90 s91 s92 s93 s94 s95 s96 s97 s98 s99 s100 s101 s102 s103 s104 s105 s106 s107 s108 s109 s110 s111 s112 s113 s114 s115 s116 s117 s118 s119 s120 s121 s122 s123 s124 s125 s126 s127 s128 s129 s130 s131 s132 s133 s134 s135 s136 s137 s138 s139 s140 s141 s142 s143 s144 s145 s146 s147 s148 s149 s150 s151 s152 s153 s154 s155 s156 s157 s158 s159 s160 s161 s162 s163 s164 s165 s166 s167 s168 s169 s170 s171 s172 s173 s174 s175 s176 s177 s178 s179 s180 s181 s182 s183 s184 s185 s186 s187 s188 s189 s190 s191 s192 s193 s194 s195 s196 s197 s198 s199 s200 s201 s202 s203 s204 s205 s206 s207 s208 s209 s210 s211 s212 s213 s214 s215 s216 s217 s218 s219 s220 s221 s222 s223 s224 s225 s226 s227 s228 s229 s230 s231 s232 s233 s234 s235 s236 s237 s238 s239 s240 : Value} {Q0 : Exit → Act → World → Prop} {Inv : Act → World → Prop}
    (hInv : ∀ (t8 t16 t17 t18 t73 t74 t75 t76 t77 t78 t79 t80 t81 t82 t83 t84 t85 t86 t87 t88 t89 t90 t91 t92 t93 t94 t95 t96 t97 : Value)  (w' : World), Below wr.heap.size wr w' → Inv ⟨#[s0, s1, s2, s3, s4, s5, s6, s7, t8, .pointer (some ⟨h.sb, 0, none⟩), .int .i64 m, s11, s12, s13, s14, .int .i64 (t + 1), t16, t17, t18, s19, s20, s21, s22, s23, s24, s25, s26, s27, s28, s29, s30, s31, s32, s33, s34, s35, s36, s37, s38, s39, s40, s41, s42, s43, s44, s45, s46, s47, s48, s49, s50, s51, s52, s53, s54, s55, s56, s57, s58, s59, s60, s61, s62, s63, s64, s65, s66, s67, s68, s69, s70, s71, s72, t73, t74, t75, t76, t77, t78, t79, t80, t81, t82, t83, t84, t85, t86, t87, t88, t89, t90, t91, t92, t93, t94, t95, t96, t97, s98, s99, s100, s101, s102, s103, s104, s105, s106, s107, s108, s109, s110, s111, s112, s113, s114, s115, s116, s117, s118, s119, s120, s121, s122, s123, s124, s125, s126, s127, s128, s129, s130, s131, s132, s133, s134, s135, s136, s137, s138, s139, s140, s141, s142, s143, s144, s145, s146, s147, s148, s149, s150, s151, s152, s153, s154, s155, s156, s157, s158, s159, s160, s161, s162, s163, s164, s165, s166, s167, s168, s169, s170, s171, s172, s173, s174, s175, s176, s177, s178, s179, s180, s181, s182, s183, s184, s185, s186, s187, s188, s189, s190, s191, s192, s193, s194, s195, s196, s197, s198, s199, s200, s201, s202, s203, s204, s205, s206, s207, s208, s209, s210, s211, s212, s213, s214, s215, s216, s217, s218, s219, s220, s221, s222, s223, s224, s225, s226, s227, s228, s229, s230, s231, s232, s233, s234, s235, s236, s237, s238, s239, s240], []⟩ w') :
    Code.wp Try.prog (loopBody Try.f3 0) (Exit.then Inv Q0) ⟨#[s0, s1, s2, s3, s4, s5, s6, s7, s8, .pointer (some ⟨h.sb, 0, none⟩), .int .i64 m, s11, s12, s13, s14, .int .i64 t, s16, s17, s18, s19, s20, s21, s22, s23, s24, s25, s26, s27, s28, s29, s30, s31, s32, s33, s34, s35, s36, s37, s38, s39, s40, s41, s42, s43, s44, s45, s46, s47, s48, s49, s50, s51, s52, s53, s54, s55, s56, s57, s58, s59, s60, s61, s62, s63, s64, s65, s66, s67, s68, s69, s70, s71, s72, s73, s74, s75, s76, s77, s78, s79, s80, s81, s82, s83, s84, s85, s86, s87, s88, s89, s90, s91, s92, s93, s94, s95, s96, s97, s98, s99, s100, s101, s102, s103, s104, s105, s106, s107, s108, s109, s110, s111, s112, s113, s114, s115, s116, s117, s118, s119, s120, s121, s122, s123, s124, s125, s126, s127, s128, s129, s130, s131, s132, s133, s134, s135, s136, s137, s138, s139, s140, s141, s142, s143, s144, s145, s146, s147, s148, s149, s150, s151, s152, s153, s154, s155, s156, s157, s158, s159, s160, s161, s162, s163, s164, s165, s166, s167, s168, s169, s170, s171, s172, s173, s174, s175, s176, s177, s178, s179, s180, s181, s182, s183, s184, s185, s186, s187, s188, s189, s190, s191, s192, s193, s194, s195, s196, s197, s198, s199, s200, s201, s202, s203, s204, s205, s206, s207, s208, s209, s210, s211, s212, s213, s214, s215, s216, s217, s218, s219, s220, s221, s222, s223, s224, s225, s226, s227, s228, s229, s230, s231, s232, s233, s234, s235, s236, s237, s238, s239, s240], []⟩ wr := by
  conv => arg 2; whnf
  obtain ⟨z, hz⟩ : ∃ z, z = !makes h.s (lvl t) true 10 := ⟨_, rfl⟩;have hzt : z = decide (m < t) := by
    have h1 := takes_iff (shipE_ok ok).1 grt ht;rw [hz];cases e : makes h.s (lvl t) true 10
    · rw [e] at h1;have : ¬ t ≤ m := fun q => by have := h1.2 q; cases this
      rw [decide_eq_true (by omega)]; rfl
    · have := h1.1 e;rw [decide_eq_false (by omega)]; rfl
  have HE := Lib.hid S;have KB := Lib.hid (And.intro (level3_any t) (S.beset ok ht hz));have HI := Lib.hid hInv;obtain ⟨M, hM⟩ : ∃ M, M = min 400 (m + 1) := ⟨_, rfl⟩;have hmn : (if m + 1 < 400 then m + 1 else 400) = M := by rw [hM]; split <;> omega
  have htM : t ≤ M := by omega
  clear hInv S hM hz;go_upto_region 11 with fail
  refine wRS (σ := Unit) (by kernel_rfl) (by kernel_rfl) (fun _ jx vx _ => Sh11V wr h t z jx vx) (fun _ ly wx => Sh11W wr h t z ly wx) () ?_ ?_ ?_
  · exact (Below.refl _ _).drew
  · simp only [AllFrom, Nat.zero_add, Nat.reduceAdd];refine ⟨?_, ?_, ?_, ?_, ?_, ?_, ?_, ?_, ?_, ?_, ?_, ?_, trivial⟩
    · refine sP_ fun sg ly a wx hl hd hW hF => ?_;have et9 := hF.old 9 (by kernel_rfl);simp [Act.eval] at et9;have ee := HE.out.below hW;have zz := ee.lt;have c0 := (cOH ee.hs 0).trans rfl;have c1 := (cOH ee.hs 1).trans rfl;have c2 := (cOH ee.hs 2).trans rfl;have c3 := (cOH ee.hs 3).trans rfl;have c4 := (cOH ee.hs 4).trans rfl;have c5 := (cOH ee.hs 5).trans rfl;have c6 := (cOH ee.hs 6).trans rfl;have c7 := (cOH ee.hs 7).trans rfl;have c8 := (cOH ee.hs 8).trans rfl;have c9 := (cOH ee.hs 9).trans rfl;have c10 := (cOH ee.hs 10).trans rfl;exact ⟨hW, .agg (shpV h.At h.ct h.Aw h.cw h.Ai h.ci h.s), by go_simp, rfl⟩
    · refine sP_ fun sg ly a wr hl hd hW hF => ?_;have et15 := hF.old 15 (by kernel_rfl);simp [Act.eval] at et15;exact ⟨by simpa [Sh11W, upd] using hW, .int .i64 t, by go_simp, rfl⟩
    · refine sP_ fun sg ly a wr hl hd hW hF => ?_;have et15 := hF.old 15 (by kernel_rfl);simp [Act.eval] at et15;exact ⟨by simpa [Sh11W, upd] using hW, .int .i64 t, by go_simp, rfl⟩
    · refine sC_ fun sg ly act wx hl hd hW hF => ?_;simp [Region.binds] at hd;have et82 := hF.new 1 82 (by simp [hd]) rfl;simp [Sh11V, Act.eval] at et82;have et83 := hF.new 2 83 (by simp [hd]) rfl;simp [Sh11V, Act.eval] at et83;refine ⟨9, #[.int .i64 t, .int .i64 t], by go_simp, ?_⟩;refine (KB.out.1 wx).mono ?_;rintro e w2 ⟨rfl, hb⟩;exact ⟨_, (), rfl, hW.trans (Below.mono hb hW.size), rfl, fun _ _ _ h => h⟩
    · refine sC_ fun sg ly act wx hl hd hW hF => ?_;simp [Region.binds] at hd;have et81 := hF.new 0 81 (by simp [hd]) rfl;simp [Sh11V, Act.eval] at et81;have et84 := hF.new 3 84 (by simp [hd]) rfl;simp [Sh11V, Act.eval] at et84;refine ⟨6, #[.agg (shpV h.At h.ct h.Aw h.cw h.Ai h.ci h.s), .agg (justV (lvl t)), .bool true], by go_simp, ?_⟩;refine (KB.out.2 wx hW).mono ?_;rintro e w2 ⟨rfl, hb⟩;exact ⟨_, (), rfl, hW.trans (Below.mono hb hW.size), rfl, fun _ _ _ h => h⟩
    · refine sP_ fun sg ly a wr hl hd hW hF => ?_;simp [Region.binds] at hd;have et85 := hF.new 4 85 (by simp [hd]) rfl;simp [Sh11V, Act.eval] at et85;exact ⟨by simpa [Sh11W, upd] using hW, .tuple #[.bool z, .bool z, .int .i64 0], by go_simp, rfl⟩
    · refine sP_ fun sg ly a wr hl hd hW hF => ?_;simp [Region.binds] at hd;have et80 := hF.new 5 80 (by simp [hd]) rfl;simp [Sh11V, Act.eval] at et80;exact ⟨by simpa [Sh11W, upd] using hW, .bool z, by go_simp, rfl⟩
    · refine sP_ fun sg ly a wr hl hd hW hF => ?_;simp [Region.binds] at hd;have et80 := hF.new 5 80 (by simp [hd]) rfl;simp [Sh11V, Act.eval] at et80;exact ⟨by simpa [Sh11W, upd] using hW, .bool z, by go_simp, rfl⟩
    · refine sP_ fun sg ly a wr hl hd hW hF => ?_;simp [Region.binds] at hd;have et80 := hF.new 5 80 (by simp [hd]) rfl;simp [Sh11V, Act.eval] at et80;exact ⟨by simpa [Sh11W, upd] using hW, .int .i64 0, by go_simp, rfl⟩
    · refine sP_ fun sg ly a wr hl hd hW hF => ?_;simp [Region.binds] at hd;have et86 := hF.new 6 86 (by simp [hd]) rfl;simp [Sh11V, Act.eval] at et86;exact ⟨by simpa [Sh11W, upd] using hW, .bool z, by go_simp, rfl⟩
    · refine sP_ fun sg ly a wr hl hd hW hF => ?_;simp [Region.binds] at hd;have et87 := hF.new 7 87 (by simp [hd]) rfl;simp [Sh11V, Act.eval] at et87;exact ⟨by simpa [Sh11W, upd] using hW, .bool z, by go_simp, rfl⟩
    · refine sP_ fun sg ly a wr hl hd hW hF => ?_;simp [Region.binds] at hd;have et88 := hF.new 8 88 (by simp [hd]) rfl;simp [Sh11V, Act.eval] at et88;exact ⟨by simpa [Sh11W, upd] using hW, .int .i64 0, by go_simp, rfl⟩
  intro _ af w8 hWW hF;obtain ⟨ff, hf, rfl⟩ := hF.lit;have hB8 : Below wr.heap.size wr w8 := hWW;have e16 := hF.new 9 16 (by decide) rfl;have e17 := hF.new 10 17 (by decide) rfl;have e18 := hF.new 11 18 (by decide) rfl;rw [← hf] at e16 e17 e18;simp only [Sh11V] at e16 e17 e18;clear hf hF hWW;simp only [List.filterMap, List.foldl, List.setIfInBounds_toArray, List.set_cons_succ, List.set_cons_zero, e16, e17, e18];clear e16 e17 e18;by_cases hmt : m < t
  · have ez : z = true := by rw [hzt]; exact decide_eq_true hmt
    subst ez;clear hzt;go_wp2_with fail
    refine HI.out _ _ _ _ _ _ _ _ _ _ _ _ _ _ _ _ _ _ _ _ _ _ _ _ _ _ _ _ _ _ ?_;exact hB8
  · have ez : z = false := by rw [hzt]; exact decide_eq_false hmt
    subst ez;clear hzt;go_wp2_with fail
    refine HI.out _ _ _ _ _ _ _ _ _ _ _ _ _ _ _ _ _ _ _ _ _ _ _ _ _ _ _ _ _ _ ?_;exact hB8
def Sh4V (wr : World) (h : ShC) (t : Int) (z : Bool) : Nat → Value → Prop
  | 0, v => v = .agg (shpV h.At h.ct h.Aw h.cw h.Ai h.ci h.s)
  | 1, v => v = .agg #[.int .i64 100, .int .i64 0, .int .i64 0, .int .i64 0]
  | 2, v => v = .agg (justV (lvl 0))
  | 3, v => v = .tuple #[.bool z, .bool z, .int .i64 0]
  | 4, v => v = .tuple #[.bool z, .bool z, .int .i64 0]
  | 5, v => v = .bool z
  | 6, v => v = .bool z
  | 7, v => v = .int .i64 0
  | 8, v => v = .bool z
  | 9, v => v = .bool z
  | 10, v => v = .int .i64 0
  | _, _ => True
def Sh4W (wr : World) (h : ShC) (t : Int) (z : Bool) (l : Nat → Bool) (w : World) : Prop := Below wr.heap.size wr w
theorem ships_any (A0 : Option Addr) (c0 : Nat) (l0 : List Int) (A1 : Option Addr) (c1 : Nat) (l1 : List Int) (A2 : Option Addr) (c2 : Nat) (l2 : List Int) (A3 : Option Addr) (c3 : Nat) (l3 : List Int) (w : World)
    (hr0 : Rd w 1 A0 l0.length (byts l0)) (hl0 : Bytes l0) (hm0 : l0.length ≤ 9223372036854775800) (hr1 : Rd w 1 A1 l1.length (byts l1)) (hl1 : Bytes l1) (hm1 : l1.length ≤ 9223372036854775800) (hr2 : Rd w 1 A2 l2.length (byts l2)) (hl2 : Bytes l2) (hm2 : l2.length ≤ 9223372036854775800) (hr3 : Rd w 1 A3 l3.length (byts l3)) (hl3 : Bytes l3) (hm3 : l3.length ≤ 9223372036854775800) :
    Calls Try.prog 3 #[.slice A0 l0.length c0, .slice A1 l1.length c1, .slice A2 l2.length c2, .slice A3 l3.length c3] w fun e w' => e = .returned (.bool true) ∧ Below w.heap.size w w' := by
  have HR0 := Lib.hid (And.intro hr0 (And.intro hl0 hm0));have HR1 := Lib.hid (And.intro hr1 (And.intro hl1 hm1));have HR2 := Lib.hid (And.intro hr2 (And.intro hl2 hm2));have HR3 := Lib.hid (And.intro hr3 (And.intro hl3 hm3));have km := Made3_any A0 c0 l0 w HR0.out.1 HR0.out.2.1 (by have := HR0.out.2.2; omega);have KM := Lib.hid km;clear hr0 hl0 hm0 hr1 hl1 hm1 hr2 hl2 hm2 hr3 hl3 hm3 km
  go_enter Try.func3, Try.ntmps3
  go_upto_region 2 with (go_at_call 4; refine KM.out.mono ?_; rintro e w1 ⟨At, ct, Aw, cw, Ai, ci, s, rfl, hs0, hR, b1⟩; have H1 := Lib.hid (And.intro hs0 (And.intro hR b1)); clear hs0 hR b1)
  obtain ⟨h, hh⟩ : ∃ h : ShC, h = ⟨w1.heap.size, At, ct, Aw, cw, Ai, ci, s⟩ := ⟨_, rfl⟩;obtain ⟨X1, hX1⟩ : ∃ X, X = w1.alloc (.cells (shpV At ct Aw cw Ai ci s) 25) := ⟨_, rfl⟩;have bX1 : Below w.heap.size w X1 := by rw [hX1]; exact H1.out.2.2.alloc H1.out.2.2.size _
  have S1 : ShE h X1 := by
    have hb : Below w1.heap.size w1 X1 := by rw [hX1]; exact (Below.refl _ _).alloc (Nat.le_refl _) _
    have r := H1.out.2.1.below hb;rw [hh];exact ⟨by rw [hX1]; exact heap_alloc_new _ _, r.rt, r.rw_, r.ri⟩
  have ok : shipE h.s = 0 := by rw [hh]; exact H1.out.1
  have R1 : ShR h.At h.Aw h.Ai h.s X1 := by
    have hb : Below w1.heap.size w1 X1 := by rw [hX1]; exact (Below.refl _ _).alloc (Nat.le_refl _) _
    rw [hh]; exact H1.out.2.1.below hb
  have kt := takes_any h.At h.ct h.Aw h.cw h.Ai h.ci h.s X1 R1;have e1 : w1.heap.size = h.sb := by rw [hh]
  obtain ⟨e2, e3, e4, e5, e6, e7, e8⟩ : At = h.At ∧ ct = h.ct ∧ Aw = h.Aw ∧ cw = h.cw ∧ Ai = h.Ai ∧ ci = h.ci ∧ s = h.s := by rw [hh]; exact ⟨rfl, rfl, rfl, rfl, rfl, rfl, rfl⟩
  rw [← hX1, e1];clear hX1 hh e1 R1 H1;subst e2 e3 e4 e5 e6 e7 e8;have zz := S1.lt;have k0 := (cOH S1.hs 0).trans rfl;have k1 := (cOH S1.hs 1).trans rfl;have k2 := (cOH S1.hs 2).trans rfl;have k3 := (cOH S1.hs 3).trans rfl;have k4 := (cOH S1.hs 4).trans rfl;have k5 := (cOH S1.hs 5).trans rfl;have k6 := (cOH S1.hs 6).trans rfl;have k7 := (cOH S1.hs 7).trans rfl;have k8 := (cOH S1.hs 8).trans rfl;have k9 := (cOH S1.hs 9).trans rfl;have k10 := (cOH S1.hs 10).trans rfl;have HS := Lib.hid (And.intro S1 (And.intro ok bX1));have KT := Lib.hid kt;clear S1 ok bX1 kt;go_upto_region 3 with (go_at_call 5; refine KT.out.mono ?_; rintro e w2 ⟨m, k, rfl, hk, b2⟩; have H2 := Lib.hid (And.intro hk b2); clear hk b2 k0 k1 k2 k3 k4 k5 k6 k7 k8 k9 k10 zz)
  rcases H2.out.1 with ⟨hk0, _, hg⟩ | ⟨hk4, _, hmk, hm0⟩ | ⟨hk, hkne, _⟩
  rotate_left
  · subst hk4 hm0;have S2 := HS.out.1.below H2.out.2;obtain ⟨t, ht⟩ : ∃ t : Int, t = 0 := ⟨0, rfl⟩;obtain ⟨z, hz⟩ : ∃ z, z = !makes h.s (lvl 0) true 10 := ⟨_, rfl⟩;have HE := Lib.hid S2;have kj : ∀ wx, Calls Try.prog 7 #[.agg #[.int .i64 100, .int .i64 0, .int .i64 0, .int .i64 0]] wx fun e w' => e = .returned (.agg (justV (lvl 0))) ∧ Below wx.heap.size wx w' := fun wx => just3_any (lvl 0) wx;have KB := Lib.hid (And.intro kj (S2.beset HS.out.2.1 (t := 0) (by decide) hz));obtain rfl : z = true := by rw [hz, hmk]; rfl
    have KW := Lib.hid awakeP_any;clear hz S2;go_upto_region 4 with fail
    obtain ⟨wr, rfl⟩ : ∃ x : World, x = w2 := ⟨_, rfl⟩;refine wRS (σ := Unit) (by kernel_rfl) (by kernel_rfl) (fun _ jx vx _ => Sh4V wr h 0 true jx vx) (fun _ ly wx => Sh4W wr h 0 true ly wx) () ?_ ?_ ?_
    · exact (Below.refl _ _).drew
    · simp only [AllFrom, Nat.zero_add, Nat.reduceAdd];refine ⟨?_, ?_, ?_, ?_, ?_, ?_, ?_, ?_, ?_, ?_, ?_, trivial⟩
      · refine sP_ fun sg ly a wx hl hd hW hF => ?_;have et9 := hF.old 9 (by kernel_rfl);simp [Act.eval] at et9;have ee := HE.out.below hW;have zz := ee.lt;have c0 := (cOH ee.hs 0).trans rfl;have c1 := (cOH ee.hs 1).trans rfl;have c2 := (cOH ee.hs 2).trans rfl;have c3 := (cOH ee.hs 3).trans rfl;have c4 := (cOH ee.hs 4).trans rfl;have c5 := (cOH ee.hs 5).trans rfl;have c6 := (cOH ee.hs 6).trans rfl;have c7 := (cOH ee.hs 7).trans rfl;have c8 := (cOH ee.hs 8).trans rfl;have c9 := (cOH ee.hs 9).trans rfl;have c10 := (cOH ee.hs 10).trans rfl;exact ⟨hW, .agg (shpV h.At h.ct h.Aw h.cw h.Ai h.ci h.s), by go_simp, rfl⟩
      · refine sP_ fun sg ly a wr hl hd hW hF => ?_;exact ⟨by simpa [Sh4W, upd] using hW, .agg #[.int .i64 100, .int .i64 0, .int .i64 0, .int .i64 0], by go_simp, rfl⟩
      · refine sC_ fun sg ly act wx hl hd hW hF => ?_;simp [Region.binds] at hd;have et46 := hF.new 1 46 (by simp [hd]) rfl;simp [Sh4V, Act.eval] at et46;refine ⟨7, #[.agg #[.int .i64 100, .int .i64 0, .int .i64 0, .int .i64 0]], by go_simp, ?_⟩;refine (KB.out.1 wx).mono ?_;rintro e w2 ⟨rfl, hb⟩;exact ⟨_, (), rfl, hW.trans (Below.mono hb hW.size), rfl, fun _ _ _ h => h⟩
      · refine sC_ fun sg ly act wx hl hd hW hF => ?_;simp [Region.binds] at hd;have et45 := hF.new 0 45 (by simp [hd]) rfl;simp [Sh4V, Act.eval] at et45;have et47 := hF.new 2 47 (by simp [hd]) rfl;simp [Sh4V, Act.eval] at et47;refine ⟨6, #[.agg (shpV h.At h.ct h.Aw h.cw h.Ai h.ci h.s), .agg (justV (lvl 0)), .bool true], by go_simp, ?_⟩;refine (KB.out.2 wx hW).mono ?_;rintro e w2 ⟨rfl, hb⟩;exact ⟨_, (), rfl, hW.trans (Below.mono hb hW.size), rfl, fun _ _ _ h => h⟩
      · refine sP_ fun sg ly a wr hl hd hW hF => ?_;simp [Region.binds] at hd;have et48 := hF.new 3 48 (by simp [hd]) rfl;simp [Sh4V, Act.eval] at et48;exact ⟨by simpa [Sh4W, upd] using hW, .tuple #[.bool true, .bool true, .int .i64 0], by go_simp, rfl⟩
      · refine sP_ fun sg ly a wr hl hd hW hF => ?_;simp [Region.binds] at hd;have et44 := hF.new 4 44 (by simp [hd]) rfl;simp [Sh4V, Act.eval] at et44;exact ⟨by simpa [Sh4W, upd] using hW, .bool true, by go_simp, rfl⟩
      · refine sP_ fun sg ly a wr hl hd hW hF => ?_;simp [Region.binds] at hd;have et44 := hF.new 4 44 (by simp [hd]) rfl;simp [Sh4V, Act.eval] at et44;exact ⟨by simpa [Sh4W, upd] using hW, .bool true, by go_simp, rfl⟩
      · refine sP_ fun sg ly a wr hl hd hW hF => ?_;simp [Region.binds] at hd;have et44 := hF.new 4 44 (by simp [hd]) rfl;simp [Sh4V, Act.eval] at et44;exact ⟨by simpa [Sh4W, upd] using hW, .int .i64 0, by go_simp, rfl⟩
      · refine sP_ fun sg ly a wr hl hd hW hF => ?_;simp [Region.binds] at hd;have et49 := hF.new 5 49 (by simp [hd]) rfl;simp [Sh4V, Act.eval] at et49;exact ⟨by simpa [Sh4W, upd] using hW, .bool true, by go_simp, rfl⟩
      · refine sP_ fun sg ly a wr hl hd hW hF => ?_;simp [Region.binds] at hd;have et50 := hF.new 6 50 (by simp [hd]) rfl;simp [Sh4V, Act.eval] at et50;exact ⟨by simpa [Sh4W, upd] using hW, .bool true, by go_simp, rfl⟩
      · refine sP_ fun sg ly a wr hl hd hW hF => ?_;simp [Region.binds] at hd;have et51 := hF.new 7 51 (by simp [hd]) rfl;simp [Sh4V, Act.eval] at et51;exact ⟨by simpa [Sh4W, upd] using hW, .int .i64 0, by go_simp, rfl⟩
    intro _ af w8 hWW hF;obtain ⟨ff, hf, rfl⟩ := hF.lit;have hB8 : Below wr.heap.size wr w8 := hWW;have e12 := hF.new 8 12 (by decide) rfl;have e13 := hF.new 9 13 (by decide) rfl;have e14 := hF.new 10 14 (by decide) rfl;rw [← hf] at e12 e13 e14;simp only [Sh4V] at e12 e13 e14;clear hf hF hWW;simp only [List.filterMap, List.foldl, List.setIfInBounds_toArray, List.set_cons_succ, List.set_cons_zero, e12, e13, e14];clear e12 e13 e14;go_wp2_with (go_at_call 8; refine (KW.out _).mono ?_; rintro e w5 ⟨rfl, b5⟩; have HW := Lib.hid b5; clear b5)
    go_ret;have b3 := H2.out.2.trans ((hB8.trans (HW.out.mono hB8.size)).mono H2.out.2.size);exact ⟨rfl, HS.out.2.2.trans (b3.mono HS.out.2.2.size)⟩
  · exact absurd (hk.trans HS.out.2.1) hkne
  subst hk0;have hm : 0 ≤ m ∧ m ≤ 400 := ⟨hg.ge, hg.le⟩;have S2 := HS.out.1.below H2.out.2;have bw2 := HS.out.2.2.trans (H2.out.2.mono HS.out.2.2.size);have HG := Lib.hid (And.intro hg (And.intro S2 (And.intro HS.out.2.1 bw2)));clear hg S2 bw2;obtain ⟨n0, hn0⟩ : ∃ n, n = max 0 (m - 1) := ⟨_, rfl⟩;have hx1 : (if 0 < m - 1 then m - 1 else 0) = n0 := by rw [hn0]; split <;> omega
  have hx2 : (if 1 < m then m - 1 else 0) = n0 := by rw [hn0]; split <;> omega
  have hn01 : 0 ≤ n0 ∧ n0 ≤ m := by omega
  have ha1 : ¬ m < 0 := by omega
  have ha2 : ¬ 400 < m := by omega
  clear hn0
  go_upto_block 0 with fail
  clear hx1 hx2 ha1 ha2
  go_cut [8] from 73 to 97 (fun rv wx => Below w2.heap.size w2 wx)
  case first =>
    go_wp2_with fail
    go_loopw [15] (fun i wx => ∃ t : Int, 0 ≤ t ∧ t ≤ m + 2 ∧ t ≤ 401 ∧ i = .int .i64 t ∧ Below w2.heap.size w2 wx) (fun i _ => (402 - RowKit.intOf i).toNat)
    case atStart => exact ⟨n0, by omega, by omega, by omega, rfl, Below.refl _ _⟩
    case round =>
      obtain ⟨t, ht0, ht1, ht2, rfl, bb⟩ := hrel;by_cases hlt : t ≤ 400 ∧ t ≤ m + 1
      · refine ships_b (h := h) (m := m) (t := t) (HG.out.2.1.below bb) HG.out.2.2.1 HG.out.1 ⟨ht0, hlt.1⟩ hlt.2 hm ?_
        intros
        rename_i w' hr
        refine ⟨?_, by simp [RowKit.intOf]; omega⟩
        repeat apply Exists.intro
        refine ⟨?_, rfl⟩;exact ⟨t + 1, by omega, by omega, by omega, rfl, bb.trans (hr.mono bb.size)⟩
      · obtain ⟨M, hM⟩ : ∃ M, M = min 400 (m + 1) := ⟨_, rfl⟩;have hmn : (if m + 1 < 400 then m + 1 else 400) = M := by rw [hM]; split <;> omega
        have hMt : ¬ t ≤ M := by omega
        have HB := Lib.hid bb;clear bb hlt hM;go_wp2_with fail
        go_meet
        exact HB.out
  case rest =>
    obtain ⟨w4, rfl, b4⟩ : ∃ wz, wz = _ ∧ Below w2.heap.size w2 wz := ⟨_, rfl, hcut⟩;have bw4 : Below w.heap.size w w4 := HG.out.2.2.2.trans (b4.mono HG.out.2.2.2.size);have S4 := HG.out.2.1.below b4;have km9 := Made9_any A1 c1 l1 w4 (HR1.out.1.below bw4) HR1.out.2.1 (by have := HR1.out.2.2; omega);have K9 := Lib.hid km9;have H4 := Lib.hid (And.intro bw4 S4);clear b4 bw4 S4 km9 hcut;go_upto_region 15 with (go_at_call 10; refine K9.out.mono ?_; rintro e w5 ⟨Ac, cc, Ab, cb, p, rfl, hp, PB, b5⟩; have H5 := Lib.hid (And.intro hp (And.intro PB b5)); clear hp PB b5)
    obtain ⟨pb, hpb⟩ : ∃ b, b = w5.heap.size := ⟨_, rfl⟩;obtain ⟨X5, hX5⟩ : ∃ X, X = w5.alloc (.cells (prtV Ac cc Ab cb p) 44) := ⟨_, rfl⟩;rw [← hX5, ← hpb];have bX5 : Below w5.heap.size w5 X5 := by rw [hX5]; exact (Below.refl _ _).alloc (Nat.le_refl _) _
    have kpl : Calls Try.prog 11 #[.agg (prtV Ac cc Ab cb p), .slice A2 l2.length c2] X5 (PlanOwn X5 p) := Planned_own w5.heap.size Ac cc Ab cb p A2 c2 l2 X5 (H5.out.2.1.below bX5) H5.out.1 bX5.size (HR2.out.1.below ((H4.out.1.trans (H5.out.2.2.mono H4.out.1.size)).trans (bX5.mono (Nat.le_trans H4.out.1.size H5.out.2.2.size)))) HR2.out.2.1 (by have := HR2.out.2.2; omega);have gp : X5.heap[pb]? = some (.cells (prtV Ac cc Ab cb p) 44 (0, 0)) := by rw [hX5, hpb]; exact heap_alloc_new _ _
    have q0 : X5.cell? ⟨pb, 0, none⟩ = some (.slice Ac p.chs.length cc) := (cOH gp 0).trans rfl;have q1 : X5.cell? ⟨pb, 1, none⟩ = some (.slice Ab p.bts.length cb) := (cOH gp 1).trans rfl;have q2 : X5.cell? ⟨pb, 2, none⟩ = some (.int .i64 p.tugs) := (cOH gp 2).trans rfl;have zp := hL_ gp;have HP := Lib.hid (And.intro kpl (And.intro gp bX5));clear kpl gp hX5 hpb bX5;go_upto_region 16 with (go_at_call 11; refine HP.out.1.mono ?_; rintro e w6 ⟨Al, cl, As, cs, l, qa, qb, rfl, hl, o1, o2, o3, o4, o5, b6⟩; have H6 := Lib.hid (And.intro hl (And.intro o1 (And.intro o2 (And.intro o3 (And.intro o4 (And.intro o5 b6)))))); clear hl o1 o2 o3 o4 o5 b6)
    clear q0 q1 q2 zp;obtain ⟨n, hn⟩ : ∃ n, n = l.calls.length := ⟨_, rfl⟩;have hn8 : n ≤ 8 := by rw [hn]; exact H6.out.1.n1
    obtain ⟨ns, hns⟩ : ∃ n, n = l.swps.length := ⟨_, rfl⟩;obtain ⟨hr, hhr⟩ : ∃ n, n = l.hours := ⟨_, rfl⟩;obtain ⟨lb, hlb⟩ : ∃ b, b = w6.heap.size := ⟨_, rfl⟩;obtain ⟨X6, hX6⟩ : ∃ X, X = w6.alloc (.cells #[.int .i64 hr, .slice Al n cl, .slice As ns cs] 49) := ⟨_, rfl⟩;have O6 : Own X5.heap.size X5 [.own 52 6 Al n cl (cacs (mixC l.calls m 0)) qa, .own 65 3 As ns cs (swcs l.swps) qb, .blk lb (.cells #[.int .i64 hr, .slice Al n cl, .slice As ns cs] 49)] X6 := by
      have a0 := Own.start X5;have a1 := a0.new (i := .own 52 6 Al n cl (cacs (mixC l.calls m 0)) qa) H6.out.2.2.2.2.2.2 (by rw [mixC_zero, hn]; exact H6.out.2.1) H6.out.2.2.2.1;have a2 := a1.add (i := .own 65 3 As ns cs (swcs l.swps) qb) (by rw [hns]; exact H6.out.2.2.1) H6.out.2.2.2.2.1 (fun j hj x hx hm => by
        simp only [List.nil_append, List.mem_singleton] at hj;rw [hj] at hm;exact H6.out.2.2.2.2.2.1 x hm hx)
      have a3 := a2.alloc (.cells #[.int .i64 hr, .slice Al n cl, .slice As ns cs] 49);rw [hX6, hlb];exact a3
    rw [← hn, ← hns, ← hhr, ← hlb, ← hX6];have HO6 := Lib.hid O6;have HN := Lib.hid (And.intro hn (And.intro hns hhr));have z6 := O6.heap 2 rfl;have p0 := (cOH z6 0).trans rfl;have p1 := (cOH z6 1).trans rfl;have p2 := (cOH z6 2).trans rfl;have zl := hL_ z6;clear hX6 hlb hn hns hhr O6 z6
    go_upto_block 2 with fail
    clear p0 p1 p2 zl
    go_cut [8] from 106 to 115 (fun rv wx => Own X5.heap.size X5 [.own 52 6 Al n cl (cacs (mixC l.calls m n)) qa, .own 65 3 As ns cs (swcs l.swps) qb, .blk lb (.cells #[.int .i64 hr, .slice Al n cl, .slice As ns cs] 49)] wx)
    case first =>
      go_wp2_with fail
      go_loopg [106] n (fun g i wx => ∃ k : Nat, g + k = n ∧ i = .int .i64 k ∧ Own X5.heap.size X5 [.own 52 6 Al n cl (cacs (mixC l.calls m k)) qa, .own 65 3 As ns cs (swcs l.swps) qb, .blk lb (.cells #[.int .i64 hr, .slice Al n cl, .slice As ns cs] 49)] wx)
      case atStart => exact ⟨0, by omega, rfl, HO6.out⟩
      case round =>
        obtain ⟨k, hk, rfl, hO⟩ := hrel;have z6 := hO.heap 2 rfl;have p1 := (cOH z6 1).trans rfl;have zl := hL_ z6;have HO := Lib.hid hO;clear z6;by_cases hlt : k < n
        · obtain ⟨g, rfl, rfl, zg, hcl, hfr⟩ := (hO.owns 0 rfl).some_ (by omega);have hkl : k < (mixC l.calls m k).length := by rw [mixC_len, ← HN.out.1]; exact hlt
          obtain ⟨-, -, -, -, d4, -⟩ := cacs_get hkl;have c4 := hcl _ _ d4;obtain ⟨v4, hv4⟩ : ∃ v, v = (mixC l.calls m k)[k].most := ⟨_, rfl⟩;rw [← hv4] at c4;clear hv4;have f4 := hfr (k * 6 + 4);have hO2 : Own X5.heap.size X5 [.own 52 6 (some ⟨g, 0, none⟩) n cl (cacs (mixC l.calls m (k + 1))) [g], .own 65 3 As ns cs (swcs l.swps) qb, .blk lb (.cells #[.int .i64 hr, .slice (some ⟨g, 0, none⟩) n cl, .slice As ns cs] 49)] (wr.setCell ⟨g, k * 6 + 4, none⟩ (.int .i64 m)) := by
            have h2 := (hO.owns 0 rfl).set_ (k * 6 + 4) (.int .i64 m);rw [mixC_step (by rw [← HN.out.1]; exact hlt)] at h2;exact hO.upd 0 rfl (i' := .own 52 6 (some ⟨g, 0, none⟩) n cl (cacs (mixC l.calls m (k + 1))) [g]) ((Keep.refl _ _).setCell (.inl (by simp [It.fp])) _) h2 (fun x hx => .inl hx)
          have HO2 := Lib.hid hO2;clear hO hO2 hcl hfr d4 hkl;go_wp2_with fail
          go_roundg (gk - 1);case measure => omega
          case rel => exact ⟨k + 1, by omega, by go_num, HO2.out⟩
        · obtain rfl : n = k := by omega
          clear hO;go_wp2_with fail
          go_meet
          exact HO.out
    case rest =>
      obtain ⟨w7, rfl, O7⟩ : ∃ wz, wz = _ ∧ Own X5.heap.size X5 [.own 52 6 Al n cl (cacs (mixC l.calls m n)) qa, .own 65 3 As ns cs (swcs l.swps) qb, .blk lb (.cells #[.int .i64 hr, .slice Al n cl, .slice As ns cs] 49)] wz := ⟨_, rfl, hcut⟩;obtain ⟨c, hc⟩ : ∃ c : PoC, c = ⟨pb, lb, Ac, cc, Ab, cb, p, Al, cl, As, cs, setMost l m⟩ := ⟨_, rfl⟩;have em : (setMost l m).calls = mixC l.calls m n := by rw [HN.out.1, mixC_all]; rfl
      have bX : Below w4.heap.size w4 X5 := H5.out.2.2.trans (HP.out.2.2.mono H5.out.2.2.size);have E7 : PoE c w7 := by
        have hle : w5.heap.size ≤ w7.heap.size := Nat.le_trans HP.out.2.2.size O7.bel.size;have hgl := O7.heap 2 rfl;have LB : PlnB w7.heap.size w7 Al cl As cs (setMost l m) := PlnB.of_own (by rw [em, mixC_len, ← HN.out.1]; exact O7.owns 0 rfl) (by show OwnS w7 _ 3 As l.swps.length cs (swcs l.swps) qb; rw [← HN.out.2.1]; exact O7.owns 1 rfl);rw [hc];refine ⟨(O7.bel.block _ (hL_ HP.out.2.1)).trans HP.out.2.1, ?_, ((H5.out.2.1.below HP.out.2.2).below (O7.bel.mono HP.out.2.2.size)).mono hle, LB⟩;have e1 : (setMost l m).calls.length = n := by rw [em, mixC_len, ← HN.out.1]
        have e2 : (setMost l m).swps.length = ns := by rw [HN.out.2.1]; rfl
        have e3 : (setMost l m).hours = hr := by rw [HN.out.2.2]; rfl
        simp only [plnV, e1, e2, e3];exact hgl
      have b47 : Below w4.heap.size w4 w7 := bX.trans (O7.bel.mono bX.size);have e1 : pb = c.pb := by rw [hc]
      have e2 : lb = c.lb := by rw [hc]
      have e3 : c.l = setMost l m := by rw [hc]
      have hp : MdP c.p := by rw [hc]; exact H5.out.1
      have hl : MdL c.p l := by rw [hc]; exact H6.out.1
      rw [e1, e2]
      apply_assumption
      refine ships_w HR3.out.1 HR3.out.2.1 HR3.out.2.2 hp hl e3 hm HG.out.2.2.1 HG.out.1 E7 (H4.out.2.below b47) (H4.out.1.trans (b47.mono H4.out.1.size)) ?_;intro _ _ _ h;exact h
end Go.Proofs.Ytalcinepeofmcaa
