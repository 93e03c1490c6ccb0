/- A round of RestrictSmall's loop over the histories of five days (printed by wip/tools/small3.py) -/
import Derived.Test.YtbgnkljjgfcngaaGreatRSp37
import Derived.Deep.DeepCutAuto
import Derived.IntWalk
import Derived.Test.YtbgnkljjgfcngaaGreatRSp8
import Derived.Test.YtbgnkljjgfcngaaGreatRSp36
import Derived.Test.YtbgnkljjgfcngaaGreatRSp6
import Derived.Test.YtbgnkljjgfcngaaGreatRSp10
import Derived.Laws.MakeOwn
import Derived.Test.YtbgnkljjgfcngaaGreatRSp13
import Derived.Test.YtbgnkljjgfcngaaGreatRSp27
set_option linter.unusedVariables false
set_option linter.unusedSimpArgs false
namespace Go.Proofs.YtbgnkljjgfcngaaGreat
open Go Go.RowKit Sp
set_option linter.unusedVariables false

set_option maxRecDepth 100000 in
set_option maxHeartbeats 4000000 in
theorem small3 {wr : World} {n : Nat} (hlt : n < 1024) {s0 s1 s2 s3 s4 s5 s6 s7 s8 s9 s10 s11 s12 s13 s14 s15 s16 s17 s18 s19 s20 s21 s22 s23 s24 s25 s26 s27 s28 s29 s30 s31 s32 s33 s34 s35 s36 s37 s38 s39 s40 s41 s42 s43 s44 s45 s46 s47 s48 s49 s50 s51 s52 s53 s54 s55 s56 s57 s58 s59 s60 s61 s62 s63 s64 s65 s66 s67 s68 s69 s70 s71 s72 s73 s74 s75 s76 s77 s78 s79 s80 s81 s82 s83 s84 s85 s86 s87 s88 s89 s90 s91 s92 s93 s94 s95 s96 s97 s98 s99 s100 s101 s102 s103 s104 s105 s106 s107 s108 s109 s110 s111 s112 s113 s114 s115 s116 s117 s118 s119 s120 s121 s122 s123 s124 s125 s126 s127 s128 s129 s130 s131 s132 s133 s134 s135 s136 s137 s138 s139 s140 s141 s142 s143 s144 s145 s146 s147 s148 s149 s150 s151 s152 s153 s154 s155 s156 s157 s158 s159 s160 s161 s162 s163 s164 s165 s166 s167 s168 s169 s170 s171 s172 s173 s174 s175 s176 s177 s178 s179 s180 s181 s182 s183 s184 s185 s186 s187 s189 s190 s191 s192 s193 s194 s195 s196 s197 s198 s199 s200 s201 s202 s203 s204 s205 s206 s207 s208 s209 s210 s211 s212 s213 s214 s215 s216 s217 s218 s219 s220 s221 s222 s223 s224 s225 s226 s227 s228 s229 s230 s231 s232 s233 s234 s235 s236 s237 s238 s239 s240 s241 s242 s243 s244 s245 s246 s247 s248 s249 s250 s251 s252 s253 s254 s255 s256 s257 s258 s259 s260 s261 s262 s263 s264 s265 s266 s267 s268 s269 s270 s271 s272 s273 s274 s275 s276 s277 s278 s279 s280 s281 s282 s283 s284 s285 s286 s287 s288 s289 s290 s291 s292 s293 s294 s295 s296 s297 s298 s299 s300 s301 s302 s303 s304 s305 s306 s307 s308 s309 s310 s311 s312 s313 s314 s315 s316 s317 s318 s319 s320 s321 s322 s323 s324 s325 s326 s327 s328 s329 s330 s331 s332 s333 s334 s335 s336 s337 s338 s339 s340 s341 s342 s343 s344 s345 s346 s347 s348 s349 s350 s351 s352 s353 s354 : Value} {Q0 : Exit → Act → World → Prop} {Inv : Act → World → Prop}
    (hInv : ∀ (t0 t19 t20 t21 t189 t190 t191 t192 t193 t194 t195 t196 t197 t198 t199 t200 t201 t202 t203 t204 t205 t206 t207 t208 t209 t210 t211 t212 t213 t214 t215 t216 t217 t218 t219 t220 t221 t222 t223 t224 t225 t226 t227 t228 t229 t230 t231 t232 t233 t234 t235 t236 t237 t238 t239 t240 t241 t242 t243 : Value)  (w' : World), Below wr.heap.size wr w' → Inv ⟨#[t0, s1, s2, s3, s4, s5, s6, s7, s8, s9, s10, s11, s12, s13, s14, s15, s16, s17, s18, t19, t20, t21, s22, s23, s24, s25, s26, s27, s28, s29, s30, s31, s32, s33, s34, s35, s36, s37, s38, s39, s40, s41, s42, s43, s44, s45, s46, s47, s48, s49, s50, s51, s52, s53, s54, s55, s56, s57, s58, s59, s60, s61, s62, s63, s64, s65, s66, s67, s68, s69, s70, s71, s72, s73, s74, s75, s76, s77, s78, s79, s80, s81, s82, s83, s84, s85, s86, s87, s88, s89, s90, s91, s92, s93, s94, s95, s96, s97, s98, s99, s100, s101, s102, s103, s104, s105, s106, s107, s108, s109, s110, s111, s112, s113, s114, s115, s116, s117, s118, s119, s120, s121, s122, s123, s124, s125, s126, s127, s128, s129, s130, s131, s132, s133, s134, s135, s136, s137, s138, s139, s140, s141, s142, s143, s144, s145, s146, s147, s148, s149, s150, s151, s152, s153, s154, s155, s156, s157, s158, s159, s160, s161, s162, s163, s164, s165, s166, s167, s168, s169, s170, s171, s172, s173, s174, s175, s176, s177, s178, s179, s180, s181, s182, s183, s184, s185, s186, s187, .int .i64 ((n : Int) + 1), t189, t190, t191, t192, t193, t194, t195, t196, t197, t198, t199, t200, t201, t202, t203, t204, t205, t206, t207, t208, t209, t210, t211, t212, t213, t214, t215, t216, t217, t218, t219, t220, t221, t222, t223, t224, t225, t226, t227, t228, t229, t230, t231, t232, t233, t234, t235, t236, t237, t238, t239, t240, t241, t242, t243, s244, s245, s246, s247, s248, s249, s250, s251, s252, s253, s254, s255, s256, s257, s258, s259, s260, s261, s262, s263, s264, s265, s266, s267, s268, s269, s270, s271, s272, s273, s274, s275, s276, s277, s278, s279, s280, s281, s282, s283, s284, s285, s286, s287, s288, s289, s290, s291, s292, s293, s294, s295, s296, s297, s298, s299, s300, s301, s302, s303, s304, s305, s306, s307, s308, s309, s310, s311, s312, s313, s314, s315, s316, s317, s318, s319, s320, s321, s322, s323, s324, s325, s326, s327, s328, s329, s330, s331, s332, s333, s334, s335, s336, s337, s338, s339, s340, s341, s342, s343, s344, s345, s346, s347, s348, s349, s350, s351, s352, s353, s354], []⟩ w') :
    Code.wp Tryz.prog (loopBody Tryz.f3 3) (Exit.then Inv Q0) ⟨#[s0, s1, s2, s3, s4, s5, s6, s7, s8, s9, s10, s11, s12, s13, s14, s15, s16, s17, s18, s19, s20, s21, s22, s23, s24, s25, s26, s27, s28, s29, s30, s31, s32, s33, s34, s35, s36, s37, s38, s39, s40, s41, s42, s43, s44, s45, s46, s47, s48, s49, s50, s51, s52, s53, s54, s55, s56, s57, s58, s59, s60, s61, s62, s63, s64, s65, s66, s67, s68, s69, s70, s71, s72, s73, s74, s75, s76, s77, s78, s79, s80, s81, s82, s83, s84, s85, s86, s87, s88, s89, s90, s91, s92, s93, s94, s95, s96, s97, s98, s99, s100, s101, s102, s103, s104, s105, s106, s107, s108, s109, s110, s111, s112, s113, s114, s115, s116, s117, s118, s119, s120, s121, s122, s123, s124, s125, s126, s127, s128, s129, s130, s131, s132, s133, s134, s135, s136, s137, s138, s139, s140, s141, s142, s143, s144, s145, s146, s147, s148, s149, s150, s151, s152, s153, s154, s155, s156, s157, s158, s159, s160, s161, s162, s163, s164, s165, s166, s167, s168, s169, s170, s171, s172, s173, s174, s175, s176, s177, s178, s179, s180, s181, s182, s183, s184, s185, s186, s187, .int .i64 n, s189, s190, s191, s192, s193, s194, s195, s196, s197, s198, s199, s200, s201, s202, s203, s204, s205, s206, s207, s208, s209, s210, s211, s212, s213, s214, s215, s216, s217, s218, s219, s220, s221, s222, s223, s224, s225, s226, s227, s228, s229, s230, s231, s232, s233, s234, s235, s236, s237, s238, s239, s240, s241, s242, s243, s244, s245, s246, s247, s248, s249, s250, s251, s252, s253, s254, s255, s256, s257, s258, s259, s260, s261, s262, s263, s264, s265, s266, s267, s268, s269, s270, s271, s272, s273, s274, s275, s276, s277, s278, s279, s280, s281, s282, s283, s284, s285, s286, s287, s288, s289, s290, s291, s292, s293, s294, s295, s296, s297, s298, s299, s300, s301, s302, s303, s304, s305, s306, s307, s308, s309, s310, s311, s312, s313, s314, s315, s316, s317, s318, s319, s320, s321, s322, s323, s324, s325, s326, s327, s328, s329, s330, s331, s332, s333, s334, s335, s336, s337, s338, s339, s340, s341, s342, s343, s344, s345, s346, s347, s348, s349, s350, s351, s352, s353, s354], []⟩ wr := by
  conv => arg 2; whnf
  have HI := Lib.hid hInv
  have HV := Lib.hid hlt
  have hlt' : (n : Int) < 1024 := by omega
  clear hInv
  go_upto_region 31 with fail
  obtain ⟨d0, e0⟩ : ∃ d, d = 70 * ((n : Int) % 4) := ⟨_, rfl⟩
  obtain ⟨d1, e1⟩ : ∃ d, d = 70 * ((n : Int) / 4 % 4) := ⟨_, rfl⟩
  obtain ⟨d2, e2⟩ : ∃ d, d = 70 * ((n : Int) / 16 % 4) := ⟨_, rfl⟩
  obtain ⟨d3, e3⟩ : ∃ d, d = 70 * ((n : Int) / 64 % 4) := ⟨_, rfl⟩
  obtain ⟨d4, e4⟩ : ∃ d, d = 70 * ((n : Int) / 256) := ⟨_, rfl⟩
  obtain ⟨X, hX⟩ : ∃ X, X = wr.alloc (.cells #[.int .i64 d0, .int .i64 d1, .int .i64 d2, .int .i64 d3, .int .i64 d4] 3) := ⟨_, rfl⟩
  obtain ⟨db, hdb⟩ : ∃ b, b = wr.heap.size := ⟨_, rfl⟩
  have B0 : Blks wr.heap.size wr [(db, .cells #[.int .i64 d0, .int .i64 d1, .int .i64 d2, .int .i64 d3, .int .i64 d4] 3 (0, 0))] X := by rw [hX, hdb]; exact (Blks.nil wr).alloc _
  rw [← e0, ← e1, ← e2, ← e3, ← e4, ← hX, ← hdb]
  have HB0 := Lib.hid B0
  clear e0 e1 e2 e3 e4 hX hdb B0
  go_wp2_with fail
  refine (Example_new _).mono ?_
  rintro e w1 ⟨sb, rfl, hs, gs, b1⟩
  have B1 := HB0.out.new b1 hs gs
  have HB1 := Lib.hid B1
  clear hs gs b1 B1
  go_upto_region 33 with fail
  obtain ⟨a, ea⟩ : ∃ d, d = 1 + (n : Int) % 3 := ⟨_, rfl⟩
  obtain ⟨b, eb⟩ : ∃ d, d = 1 + (n : Int) / 3 % 3 := ⟨_, rfl⟩
  obtain ⟨c, ec⟩ : ∃ d, d = (n : Int) / 9 % 3 := ⟨_, rfl⟩
  obtain ⟨V, hV⟩ : ∃ V, V = w1.alloc (.cells #[.slice (some ⟨sb, 0, none⟩) 3 3, .int .i64 a, .int .i64 b, .int .i64 c, .int .i64 2] 25) := ⟨_, rfl⟩
  obtain ⟨pb, hpb⟩ : ∃ b, b = w1.heap.size := ⟨_, rfl⟩
  have B2 := HB1.out.alloc (.cells #[.slice (some ⟨sb, 0, none⟩) 3 3, .int .i64 a, .int .i64 b, .int .i64 c, .int .i64 2] 25)
  rw [← hV, ← hpb] at B2
  rw [← ea, ← eb, ← ec, ← hV, ← hpb]
  have HB2 := Lib.hid B2
  have p0 : V.cell? ⟨pb, 0, none⟩ = some (.slice (some ⟨sb, 0, none⟩) 3 3) := (cell_of_heap (B2.heap 2 rfl) 0).trans rfl
  have p1 : V.cell? ⟨pb, 1, none⟩ = some (.int .i64 a) := (cell_of_heap (B2.heap 2 rfl) 1).trans rfl
  have p2 : V.cell? ⟨pb, 2, none⟩ = some (.int .i64 b) := (cell_of_heap (B2.heap 2 rfl) 2).trans rfl
  have p3 : V.cell? ⟨pb, 3, none⟩ = some (.int .i64 c) := (cell_of_heap (B2.heap 2 rfl) 3).trans rfl
  have p4 : V.cell? ⟨pb, 4, none⟩ = some (.int .i64 2) := (cell_of_heap (B2.heap 2 rfl) 4).trans rfl
  have zp : pb < V.heap.size := B2.lt 2 rfl
  have B3 := B2.alloc (.cells #[.int .i64 0, .int .i64 ((n : Int) % 5), .int .i64 1] 40)
  have k1 := small_five (w := V.alloc (.cells #[.int .i64 0, .int .i64 ((n : Int) % 5), .int .i64 1] 40)) (day := (n : Int) % 5) (step := (n : Int) % 3) (lo := (n : Int) / 5 % 5) (hi := (n : Int) / 25 % 5) (B3.heap 1 rfl) (B3.heap 0 rfl) (B3.heap 3 rfl) a b c (by omega)
  have K1 := Lib.hid k1
  clear ea eb ec hV hpb B2 B3 k1
  go_wp2_with fail
  refine K1.out.mono ?_
  rintro e Y ⟨rfl, b3⟩
  have HY := Lib.hid (HB2.out.below (((Below.refl _ _).alloc (Nat.le_refl _) _).trans (b3.mono (by simp)))).bel
  clear b3 p0 p1 p2 p3 p4 zp K1
  have ew : IntKind.i64.wrap ((n : Int) + 1) = (n : Int) + 1 := IntWalk.i64_in _ (by omega)
  go_wp2_with fail
  exact HI.out _ _ _ _ _ _ _ _ _ _ _ _ _ _ _ _ _ _ _ _ _ _ _ _ _ _ _ _ _ _ _ _ _ _ _ _ _ _ _ _ _ _ _ _ _ _ _ _ _ _ _ _ _ _ _ _ _ _ _ _ HY.out
end Go.Proofs.YtbgnkljjgfcngaaGreat
/- RestrictSmall: lists of equal elements in memory. -/
namespace Go.Proofs.YtbgnkljjgfcngaaGreat
open Go Go.RowKit Sp
set_option linter.unusedVariables false

theorem rep_get (l : List Value) : ∀ n i, i < n * l.length → ((List.replicate n l).flatten)[i]? = l[i % l.length]?
  | 0, i, h => absurd h (by simp)
  | n + 1, i, h => by
    rw [List.replicate_succ, List.flatten_cons, List.getElem?_append]
    split
    · rename_i h1; rw [Nat.mod_eq_of_lt h1]
    · rename_i h1
      rw [rep_get l n (i - l.length) (by rw [Nat.add_mul, Nat.one_mul] at h; omega), ← Nat.mod_eq_sub_mod (by omega)]
theorem rep_length (l : List Value) (n : Nat) : ((List.replicate n l).flatten).length = n * l.length := by simp
theorem made_rep (l : List Value) (hl : 0 < l.length) (n : Nat) : madeCells l.toArray (n * l.length) = ((List.replicate n l).flatten).toArray := by
  refine Array.ext_getElem? fun i => ?_
  by_cases hi : i < n * l.length
  · have hm : i % l.length < l.length := Nat.mod_lt _ hl
    have h1 : (madeCells l.toArray (n * l.length))[i]? = l[i % l.length]? := by
      simp [madeCells, hi, hm]
    have h2 := rep_get l n i hi
    rw [h1, ← h2]
    simp
  · rw [Array.getElem?_eq_none (by rw [size_madeCells]; omega), Array.getElem?_eq_none (by simp; omega)]
theorem spcs_rep (n : Nat) (x : Int × Int) : spcs (List.replicate n x) = (List.replicate n (spc x)).flatten := by simp [spcs, List.flatMap, List.map_replicate]
theorem pscs_rep (n : Nat) (x : Psg) : pscs (List.replicate n x) = (List.replicate n (psc x)).flatten := by simp [pscs, List.flatMap, List.map_replicate]
/-- a list of days, each alike -/
theorem rep_days {w : World} {g n : Nat} {x : Int} {cur : Array Value} {t : TypeId} (h : w.heap[g]? = some (.cells cur t (0, 0))) (hr : RepSt [.int .i64 x] n n cur) : Rd w 1 (some ⟨g, 0, none⟩) n (ints (List.replicate n x)) := by
  refine ⟨by simp [ints], fun _ => ⟨g, 0, rfl, heap_lt h, fun j u hu => ?_⟩⟩
  have hj : j < n := by
    have := (List.getElem?_eq_some_iff.1 hu).1
    simpa [ints] using this
  rw [Nat.zero_add, cell_of_heap h, hr.2 j (by simpa using hj)]
  simp [ints, hj] at hu
  rw [show j % [Value.int IntKind.i64 x].length = 0 from Nat.mod_one j, hu]; rfl
theorem own_heap {w : World} {g n size : Nat} {cs : List Value} {e : TypeId} (h : w.heap[g]? = some (.cells cs.toArray e (0, 0))) (hl : cs.length = n * size) (hn : n ≤ 9223372036854775807) : OwnS w e size (some ⟨g, 0, none⟩) n n cs [g] :=
  ⟨hl, .inr ⟨g, cs.toArray, rfl, rfl, h, Nat.le_refl _, hn, by simp [hl], fun j u hu => by simpa using hu⟩⟩

/-- the policy while steps are put behind its steps: w0: the world at the round's beginning; gb: the days' block -/
structure AppSt (w0 : World) (gb : Nat) (o : Obj) (pb : Nat) (As : Option Addr) (L : List Stp) (cs : Nat) (q : List Nat) (wr : World) : Prop where
  blk : wr.heap[pb]? = some (.cells #[.slice As L.length cs, .int .i64 2, .int .i64 3, .int .i64 1, .int .i64 2] 25 (0, 0))
  own : OwnS wr 36 4 As L.length cs (stcs L) q
  day : wr.heap[gb]? = some o
  bel : Below w0.heap.size w0 wr
  np : w0.heap.size ≤ pb
  ne : gb ≠ pb
  new : ∀ g ∈ q, w0.heap.size ≤ g ∧ g ≠ pb ∧ g ≠ gb
theorem AppSt.below {w0 wr w' : World} {gb pb cs : Nat} {o : Obj} {As : Option Addr} {L : List Stp} {q : List Nat} (h : AppSt w0 gb o pb As L cs q wr) (hb : Below wr.heap.size wr w') : AppSt w0 gb o pb As L cs q w' :=
  ⟨(hb.block _ (heap_lt h.blk)).trans h.blk, h.own.keepS (S := []) (Keep.of_below hb) (by simp), (hb.block _ (heap_lt h.day)).trans h.day, h.bel.trans (hb.mono h.bel.size), h.np, h.ne, h.new⟩
theorem AppSt.step {w0 wr w5 : World} {gb pb cs : Nat} {o : Obj} {As : Option Addr} {L : List Stp} {q : List Nat} (h : AppSt w0 gb o pb As L cs q wr) {o1 : Obj} {g c' : Nat} (s : Stp)
    (h1 : OwnS w5 36 4 (some ⟨g, 0, none⟩) (L.length + 1) c' (stcs L ++ stc s) [g]) (h2 : g ∈ q ∨ (wr.alloc o1).heap.size = g) (h4 : Keep q (wr.alloc o1) w5) :
    w5.heap[pb]? = some (.cells #[.slice As L.length cs, .int .i64 2, .int .i64 3, .int .i64 1, .int .i64 2] 25 (0, 0)) ∧
    AppSt w0 gb o pb (some ⟨g, 0, none⟩) (L ++ [s]) c' [g] (w5.setCell ⟨pb, 0, none⟩ (.slice (some ⟨g, 0, none⟩) (L.length + 1) c')) := by
  have z1 := heap_lt h.blk
  have z2 := heap_lt h.day
  have z3 := h.bel.size
  have hg : w0.heap.size ≤ g ∧ g ≠ pb ∧ g ≠ gb := by
    rcases h2 with h2 | h2
    · exact h.new _ h2
    · simp at h2; omega
  have ha : Below wr.heap.size wr (wr.alloc o1) := (Below.refl _ _).alloc (Nat.le_refl _) _
  have e5 := (h4.block pb (by simp; omega) (fun hm => (h.new _ hm).2.1 rfl)).trans (heap_alloc' h.blk o1)
  have d5 := (h4.block gb (by simp; omega) (fun hm => (h.new _ hm).2.2 rfl)).trans (heap_alloc' h.day o1)
  have bb : Below w0.heap.size w0 w5 := (h.bel.trans (ha.mono z3)).trans (h4.below (by simp; omega) (fun x hx => (h.new x hx).1))
  have hl : (L ++ [s]).length = L.length + 1 := by simp
  refine ⟨e5, by rw [hl]; exact heap_set e5 0 _, ?_, heap_set_ne d5 h.ne _, bb.setCell (p := ⟨pb, 0, none⟩) h.np _, h.np, h.ne, fun x hx => by rw [List.mem_singleton.1 hx]; exact hg⟩
  rw [hl, show stcs (L ++ [s]) = stcs L ++ stc s from by simp [stcs]]
  exact h1.setCell (by simp; omega) _
end Go.Proofs.YtbgnkljjgfcngaaGreat
/- RestrictSmall: what Force, Bounds and Review answer at the lengths' limits. -/
namespace Go.Proofs.YtbgnkljjgfcngaaGreat
open Go Go.RowKit Sp
set_option linter.unusedVariables false

/-- what Force answers for n days and a policy whose error is ck -/
def FCase (n : Nat) (fl : Nat) (fe ck : Int) : Prop := (n ≤ 400 ∧ fe = ck ∧ (fe = 0 → fl = n)) ∨ (n = 401 ∧ fe = ck ∧ ck ≠ 0) ∨ (n = 401 ∧ fe = 2 ∧ ck = 0)
theorem force_case (p : Pol) {n : Nat} (hn : n ≤ 401) : FCase n (if startS p (List.replicate n 300) = 0 then forceS p (List.replicate n 300) else []).length (startS p (List.replicate n 300)) (checkS p) := by
  have hb : (List.replicate n (300 : Int)).any (fun n => !within n 0 2000) = false := by
    rw [List.any_eq_false]
    intro x hx
    rw [(List.mem_replicate.1 hx).2]
    decide
  have hs : startS p (List.replicate n 300) = if checkS p ≠ 0 then checkS p else if n = 401 then 2 else 0 := by
    unfold startS
    rw [hb, List.length_replicate]
    by_cases h : checkS p = 0
    · have e1 : ¬ (checkS p ≠ 0) := fun f => f h
      rw [if_neg e1, if_neg e1]
      by_cases h1 : n = 401
      · rw [if_pos (show (400 : Int) < (n : Int) by omega), if_pos h1]
      · rw [if_neg (show ¬ (400 : Int) < (n : Int) by omega), if_neg h1]; rfl
    · rw [if_pos h, if_pos h]
  by_cases h : checkS p = 0
  · have e1 : ¬ (checkS p ≠ 0) := fun f => f h
    rw [if_neg e1] at hs
    by_cases h1 : n = 401
    · rw [if_pos h1] at hs
      rw [hs]
      exact .inr (.inr ⟨h1, rfl, h⟩)
    · rw [if_neg h1] at hs
      rw [hs]
      exact .inl ⟨by omega, h.symm, fun _ => by rw [if_pos rfl, forceS_length, List.length_replicate]⟩
  · rw [if_pos h] at hs
    rw [hs]
    by_cases h1 : n = 401
    · exact .inr (.inl ⟨h1, rfl, h⟩)
    · exact .inl ⟨by omega, rfl, fun h2 => absurd h2 h⟩
theorem force_days (As : Option Addr) (cs : Nat) (p : Pol) (A : Option Addr) (c n : Nat) (w : World) (hn : n ≤ 401) (hp : PolV w As cs p) (hr : Rd w 1 A n (ints (List.replicate n 300))) :
    Calls Tryz.prog 11 #[.agg #[.slice As p.steps.length cs, .int .i64 p.hold, .int .i64 p.calm, .int .i64 p.notice, .int .i64 p.grace], .slice A n c] w
      fun e w' => ∃ A fl c fe, e = .returned (.tuple #[.slice A fl c, .int .i64 fe]) ∧ FCase n fl fe (checkS p) ∧ Below w.heap.size w w' := by
  have hl : (List.replicate n (300 : Int)).length = n := List.length_replicate
  have h := Force_any As cs p A c (List.replicate n 300) w hp (by rw [hl]; exact hr) (by omega)
  rw [hl] at h
  refine h.mono ?_
  rintro e w' ⟨A, c, rfl, _, hb⟩
  exact ⟨A, _, c, _, rfl, force_case p hn, hb⟩
theorem check_ex : checkS (polE 2 3 1) = 0 := by decide +kernel
theorem start_ex : startS (polE 2 3 1) exD = 0 := by decide +kernel
theorem bounds_zero {w : World} {sb d n : Nat} (hs : ExAt sb w) (hn : n ≤ 401) (hd : w.heap[d]? = some (.cells (spcs (List.replicate n (0, 0))).toArray 33 (0, 0))) :
    Calls Tryz.prog 12 #[.agg #[.slice (some ⟨sb, 0, none⟩) 3 3, .int .i64 2, .int .i64 3, .int .i64 1, .int .i64 2], .slice (some ⟨d, 0, none⟩) n n] w
      fun e w' => (∃ x, e = .returned (.tuple #[x, .int .i64 (if n = 401 then 2 else 0)])) ∧ Below w.heap.size w w' := by
  have hl : (List.replicate n ((0 : Int), (0 : Int))).length = n := List.length_replicate
  have h := Bounds_any (some ⟨sb, 0, none⟩) 3 (polE 2 3 1) (some ⟨d, 0, none⟩) n (List.replicate n (0, 0)) w (hs.pol 2 3 1) (rd_heap hd (by rw [spcs_length])) (by omega)
  rw [hl] at h
  refine h.mono ?_
  rintro e w' ⟨A, m, c, rfl, hb, _, _⟩
  refine ⟨⟨.slice A m c, ?_⟩, hb⟩
  have h0 : startS (polE 2 3 1) [] = 0 := by rw [start_nil]; exact check_ex
  by_cases h1 : n = 401
  · rw [spn_many h0 (by rw [hl]; omega), if_pos h1]
  · rw [spn_ok h0 (by rw [hl]; omega) (fun s hs => by rw [(List.mem_replicate.1 hs).2]; decide), if_neg h1]
theorem review_zero {w : World} {sb db d n : Nat} (hs : ExAt sb w) (hn : n ≤ 401) (hdb : w.heap[db]? = some (.cells #[.int .i64 120, .int .i64 130, .int .i64 210, .int .i64 220, .int .i64 90, .int .i64 50, .int .i64 40, .int .i64 30, .int .i64 20] 3 (0, 0)))
    (hd : w.heap[d]? = some (.cells (pscs (List.replicate (n + 100) ⟨⟨0, 0, false⟩, 0, 0⟩)).toArray 31 (0, 0))) :
    Calls Tryz.prog 13 #[.agg #[.slice (some ⟨sb, 0, none⟩) 3 3, .int .i64 2, .int .i64 3, .int .i64 1, .int .i64 2], .slice (some ⟨db, 0, none⟩) 9 9, .slice (some ⟨d, 0, none⟩) (n + 100) (n + 100)] w
      fun e w' => (∃ A c, e = .returned (.tuple #[.slice A (if n = 401 then 0 else n + 100) c, .int .i64 (if n = 401 then 2 else 0)])) ∧ Below w.heap.size w w' := by
  have hl : (List.replicate (n + 100) (⟨⟨0, 0, false⟩, 0, 0⟩ : Psg)).length = n + 100 := List.length_replicate
  have h := Review_any (some ⟨sb, 0, none⟩) 3 (polE 2 3 1) (some ⟨db, 0, none⟩) 9 exD (some ⟨d, 0, none⟩) (n + 100) (List.replicate (n + 100) ⟨⟨0, 0, false⟩, 0, 0⟩) w (hs.pol 2 3 1) (rd_heap (cs := ints exD) hdb rfl) (by decide) (rd_heap hd (by rw [pscs_rep, rep_length]; simp [psc])) (by omega)
  rw [hl] at h
  refine h.mono ?_
  rintro e w' ⟨A, c, rfl, _, hb⟩
  refine ⟨⟨A, c, ?_⟩, hb⟩
  by_cases h1 : n = 401
  · have he := review_many (l := List.replicate (n + 100) ⟨⟨0, 0, false⟩, 0, 0⟩) start_ex (by rw [hl]; omega)
    rw [he, if_pos h1, if_pos h1]
    unfold reviewS
    rw [he]
    rfl
  · have he : reviewE (polE 2 3 1) exD (List.replicate (n + 100) ⟨⟨0, 0, false⟩, 0, 0⟩) = 0 := by
      rw [review_psgs start_ex (by rw [hl]; omega)]
      exact psgsE_zero (fun x hx => by rw [(List.mem_replicate.1 hx).2]; decide)
    rw [he, if_neg h1, if_neg h1]
    unfold reviewS
    rw [he, if_pos rfl, List.length_map, hl]
theorem mk_spans (n : Nat) (hn : n ≤ 1000) (w : World) : (Instr.makeSlice 46 (.int .i64 n) (.int .i64 n)).run Tryz.prog w = .ok (.slice (some ⟨w.heap.size, 0, none⟩) n n) (w.alloc (.cells (spcs (List.replicate n (0, 0))).toArray 33)) := by
  obtain ⟨i0, hi, hz0, hz1, hz2⟩ := info_parts info_span
  have h := run_makeSlice (P := Tryz.prog) w 46 33 i0 _ Tryz.underlying46 hi hz0 .i64 .i64 (n : Int) (n : Int) (by omega) (by omega) (by rw [hz1]; simp; omega) (by rw [hz2]; omega) (by omega)
  rw [hz1] at h
  simp only [Int.toNat_natCast] at h
  rw [h, spcs_rep]
  have hm := made_rep (spc (0, 0)) (by decide) n
  rw [← hm]
  rfl
theorem mk_psgs (n : Nat) (hn : n ≤ 1000) (w : World) : (Instr.makeSlice 43 (.int .i64 ((n : Int) + 100)) (.int .i64 ((n : Int) + 100))).run Tryz.prog w = .ok (.slice (some ⟨w.heap.size, 0, none⟩) (n + 100) (n + 100)) (w.alloc (.cells (pscs (List.replicate (n + 100) ⟨⟨0, 0, false⟩, 0, 0⟩)).toArray 31)) := by
  obtain ⟨i0, hi, hz0, hz1, hz2⟩ := info_parts (show (Tryz.prog.info? 31).map (fun i => (i.zero, i.size, i.bytes)) = some (some ((.agg #[.int .i64 0, .int .i64 0, .bool false, .int .i64 0, .int .i64 0])), 5, 40) from by kernel_rfl)
  have h := run_makeSlice (P := Tryz.prog) w 43 31 i0 _ Tryz.underlying43 hi hz0 .i64 .i64 ((n + 100 : Nat) : Int) ((n + 100 : Nat) : Int) (by omega) (by omega) (by rw [hz1]; simp; omega) (by rw [hz2]; omega) (by omega)
  rw [hz1] at h
  simp only [Int.toNat_natCast] at h
  rw [show ((n : Int) + 100) = ((n + 100 : Nat) : Int) from by omega, h, pscs_rep]
  have hm := made_rep (psc ⟨⟨0, 0, false⟩, 0, 0⟩) (by decide) (n + 100)
  rw [← hm]
  rfl
end Go.Proofs.YtbgnkljjgfcngaaGreat
/- A round of RestrictSmall's loop that puts steps behind a policy's (printed by wip/tools/small4.py) -/
namespace Go.Proofs.YtbgnkljjgfcngaaGreat
open Go Go.RowKit Sp
set_option linter.unusedVariables false

theorem info_stp8 : (Tryz.prog.info? 36).map (fun i => (i.zero, i.size, i.bytes)) = some (some (.agg #[.int .i64 0, .int .i64 0, .int .i64 0, .int .i64 0]), 4, 32) := by kernel_rfl
set_option maxRecDepth 100000 in
set_option maxHeartbeats 4000000 in
theorem small4 {w0 wr : World} {n k gb pb cs : Nat} {o : Obj} {As : Option Addr} {L : List Stp} {q : List Nat} (hn : n ≤ 401) (hlt : k + 391 < n) (hL : L.length = k) (hst : AppSt w0 gb o pb As L cs q wr) {s0 s1 s2 s3 s4 s5 s6 s7 s8 s9 s10 s11 s12 s13 s14 s15 s16 s17 s18 s19 s20 s21 s23 s26 s27 s28 s29 s30 s31 s32 s33 s34 s35 s36 s37 s38 s39 s40 s41 s42 s43 s44 s45 s46 s47 s48 s49 s50 s51 s52 s53 s54 s55 s56 s57 s58 s59 s60 s61 s62 s63 s64 s65 s66 s67 s68 s69 s70 s71 s72 s73 s74 s75 s76 s77 s78 s79 s80 s81 s82 s83 s84 s85 s86 s87 s88 s89 s90 s91 s92 s93 s94 s95 s96 s97 s98 s99 s100 s101 s102 s103 s104 s105 s106 s107 s108 s109 s110 s111 s112 s113 s114 s115 s116 s117 s118 s119 s120 s121 s122 s123 s124 s125 s126 s127 s128 s129 s130 s131 s132 s133 s134 s135 s136 s137 s138 s139 s140 s141 s142 s143 s144 s145 s146 s147 s148 s149 s150 s151 s152 s153 s154 s155 s156 s157 s158 s159 s160 s161 s162 s163 s164 s165 s166 s167 s168 s169 s170 s171 s172 s173 s174 s175 s176 s177 s178 s179 s180 s181 s182 s183 s184 s185 s186 s187 s188 s189 s190 s191 s192 s193 s194 s195 s196 s197 s198 s199 s200 s201 s202 s203 s204 s205 s206 s207 s208 s209 s210 s211 s212 s213 s214 s215 s216 s217 s218 s219 s220 s221 s222 s223 s224 s225 s226 s227 s228 s229 s230 s231 s232 s233 s234 s235 s236 s237 s238 s239 s240 s241 s242 s243 s244 s245 s246 s247 s248 s249 s250 s251 s252 s253 s254 s255 s256 s257 s258 s259 s260 s261 s262 s263 s264 s265 s266 s267 s268 s269 s270 s271 s272 s273 s274 s275 s276 s277 s278 s279 s280 s281 s282 s283 s284 s285 s286 s287 s288 s289 s290 s291 s292 s293 s294 s295 s296 s297 s298 s299 s300 s301 s302 s303 s304 s305 s306 s307 s308 s309 s310 s311 s312 s313 s314 s315 s316 s317 s318 s319 s320 s321 s322 s323 s324 s325 s326 s327 s328 s329 s330 s331 s332 s333 s334 s335 s336 s337 s338 s339 s340 s341 s342 s343 s344 s345 s346 s347 s348 s349 s350 s351 s352 s353 s354 : Value} {Q0 : Exit → Act → World → Prop} {Inv : Act → World → Prop}
    (hInv : ∀ (t252 t253 t254 t255 t256 t257 t258 t259 t260 t261 t262 t263 t264 t265 t266 t267 t268 t269 t270 t271 t272 : Value) (As' : Option Addr) (cs' : Nat) (q' : List Nat) (w' : World), AppSt w0 gb o pb As' (L ++ [⟨3 + (k : Int) / 4, 1000 * (k : Int), 100 * (k : Int), 100 * (k : Int)⟩]) cs' q' w' → Inv ⟨#[s0, s1, s2, s3, s4, s5, s6, s7, s8, s9, s10, s11, s12, s13, s14, s15, s16, s17, s18, s19, s20, s21, .int .i64 n, s23, .pointer (some ⟨pb, 0, none⟩), .int .i64 ((k : Int) + 1), s26, s27, s28, s29, s30, s31, s32, s33, s34, s35, s36, s37, s38, s39, s40, s41, s42, s43, s44, s45, s46, s47, s48, s49, s50, s51, s52, s53, s54, s55, s56, s57, s58, s59, s60, s61, s62, s63, s64, s65, s66, s67, s68, s69, s70, s71, s72, s73, s74, s75, s76, s77, s78, s79, s80, s81, s82, s83, s84, s85, s86, s87, s88, s89, s90, s91, s92, s93, s94, s95, s96, s97, s98, s99, s100, s101, s102, s103, s104, s105, s106, s107, s108, s109, s110, s111, s112, s113, s114, s115, s116, s117, s118, s119, s120, s121, s122, s123, s124, s125, s126, s127, s128, s129, s130, s131, s132, s133, s134, s135, s136, s137, s138, s139, s140, s141, s142, s143, s144, s145, s146, s147, s148, s149, s150, s151, s152, s153, s154, s155, s156, s157, s158, s159, s160, s161, s162, s163, s164, s165, s166, s167, s168, s169, s170, s171, s172, s173, s174, s175, s176, s177, s178, s179, s180, s181, s182, s183, s184, s185, s186, s187, s188, s189, s190, s191, s192, s193, s194, s195, s196, s197, s198, s199, s200, s201, s202, s203, s204, s205, s206, s207, s208, s209, s210, s211, s212, s213, s214, s215, s216, s217, s218, s219, s220, s221, s222, s223, s224, s225, s226, s227, s228, s229, s230, s231, s232, s233, s234, s235, s236, s237, s238, s239, s240, s241, s242, s243, s244, s245, s246, s247, s248, s249, s250, s251, t252, t253, t254, t255, t256, t257, t258, t259, t260, t261, t262, t263, t264, t265, t266, t267, t268, t269, t270, t271, t272, s273, s274, s275, s276, s277, s278, s279, s280, s281, s282, s283, s284, s285, s286, s287, s288, s289, s290, s291, s292, s293, s294, s295, s296, s297, s298, s299, s300, s301, s302, s303, s304, s305, s306, s307, s308, s309, s310, s311, s312, s313, s314, s315, s316, s317, s318, s319, s320, s321, s322, s323, s324, s325, s326, s327, s328, s329, s330, s331, s332, s333, s334, s335, s336, s337, s338, s339, s340, s341, s342, s343, s344, s345, s346, s347, s348, s349, s350, s351, s352, s353, s354], []⟩ w') :
    Code.wp Tryz.prog (loopBody Tryz.f3 5) (Exit.then Inv Q0) ⟨#[s0, s1, s2, s3, s4, s5, s6, s7, s8, s9, s10, s11, s12, s13, s14, s15, s16, s17, s18, s19, s20, s21, .int .i64 n, s23, .pointer (some ⟨pb, 0, none⟩), .int .i64 k, s26, s27, s28, s29, s30, s31, s32, s33, s34, s35, s36, s37, s38, s39, s40, s41, s42, s43, s44, s45, s46, s47, s48, s49, s50, s51, s52, s53, s54, s55, s56, s57, s58, s59, s60, s61, s62, s63, s64, s65, s66, s67, s68, s69, s70, s71, s72, s73, s74, s75, s76, s77, s78, s79, s80, s81, s82, s83, s84, s85, s86, s87, s88, s89, s90, s91, s92, s93, s94, s95, s96, s97, s98, s99, s100, s101, s102, s103, s104, s105, s106, s107, s108, s109, s110, s111, s112, s113, s114, s115, s116, s117, s118, s119, s120, s121, s122, s123, s124, s125, s126, s127, s128, s129, s130, s131, s132, s133, s134, s135, s136, s137, s138, s139, s140, s141, s142, s143, s144, s145, s146, s147, s148, s149, s150, s151, s152, s153, s154, s155, s156, s157, s158, s159, s160, s161, s162, s163, s164, s165, s166, s167, s168, s169, s170, s171, s172, s173, s174, s175, s176, s177, s178, s179, s180, s181, s182, s183, s184, s185, s186, s187, s188, s189, s190, s191, s192, s193, s194, s195, s196, s197, s198, s199, s200, s201, s202, s203, s204, s205, s206, s207, s208, s209, s210, s211, s212, s213, s214, s215, s216, s217, s218, s219, s220, s221, s222, s223, s224, s225, s226, s227, s228, s229, s230, s231, s232, s233, s234, s235, s236, s237, s238, s239, s240, s241, s242, s243, s244, s245, s246, s247, s248, s249, s250, s251, s252, s253, s254, s255, s256, s257, s258, s259, s260, s261, s262, s263, s264, s265, s266, s267, s268, s269, s270, s271, s272, s273, s274, s275, s276, s277, s278, s279, s280, s281, s282, s283, s284, s285, s286, s287, s288, s289, s290, s291, s292, s293, s294, s295, s296, s297, s298, s299, s300, s301, s302, s303, s304, s305, s306, s307, s308, s309, s310, s311, s312, s313, s314, s315, s316, s317, s318, s319, s320, s321, s322, s323, s324, s325, s326, s327, s328, s329, s330, s331, s332, s333, s334, s335, s336, s337, s338, s339, s340, s341, s342, s343, s344, s345, s346, s347, s348, s349, s350, s351, s352, s353, s354], []⟩ wr := by
  conv => arg 2; whnf
  obtain ⟨i0, hi, hz0, hz1, hz2⟩ := info_parts info_stp8
  have HI := Lib.hid hInv
  have c0 : wr.cell? ⟨pb, 0, none⟩ = some (.slice As L.length cs) := (cell_of_heap hst.blk 0).trans rfl
  have zo := heap_lt hst.blk
  have hlt' : (k : Int) < (n : Int) - 391 := by omega
  have hk : (k : Int) < 10 := by omega
  have hn1 : (n : Int) ≤ 401 := by omega
  have hn2 : (391 : Int) ≤ (n : Int) := by omega
  have ew1 : IntKind.i64.wrap ((n : Int) - 391) = (n : Int) - 391 := IntWalk.i64_in _ (by omega)
  have HV := Lib.hid (And.intro hn (And.intro hlt hL))
  have HS := Lib.hid hst
  clear hInv hn hlt hst hL
  go_wp2_with (at_builtin
               refine wpList_append_S (size := 4) rfl (.tmp 259) (.tmp 270) 23 rfl i0 _ 32 Tryz.underlying23 hi hz0 hz1 (by decide) hz2 rfl (A := As) (n := L.length) (c := cs) (xs := stcs L) (fp := q) (by simp [Act.eval]) ⟨wr.heap.size, 0, none⟩ (by simp [Act.eval]) (stc ⟨3 + (k : Int) / 4, 1000 * (k : Int), 100 * (k : Int), 100 * (k : Int)⟩) (HS.out.own.alloc _) rfl ?_ (by simp [stc, Value.oneCell']) (by have := HV.out; omega) (by omega) ?_
               · intro j v hv
                 rw [show (⟨wr.heap.size, 0, none⟩ : Addr).add j = ⟨wr.heap.size, j, none⟩ from by simp [Addr.add]; omega]
                 rw [World.cell?_alloc_new]
                 simpa [stc] using hv
               intro g c' w5 h1 h2 h3 h4
               have hq := HS.out.step ⟨3 + (k : Int) / 4, 1000 * (k : Int), 100 * (k : Int), 100 * (k : Int)⟩ h1 h2 h4
               have d0 : w5.cell? ⟨pb, 0, none⟩ = some (.slice As L.length cs) := (cell_of_heap hq.1 0).trans rfl
               have d1 := frozen_of_heap hq.1 0
               have d2 := heap_lt hq.1
               have HQ := Lib.hid hq.2
               clear h1 h2 h3 h4 hq)
  exact HI.out _ _ _ _ _ _ _ _ _ _ _ _ _ _ _ _ _ _ _ _ _ _ _ _ _ HQ.out
end Go.Proofs.YtbgnkljjgfcngaaGreat
/- slices.Repeat of one number (printed by wip/tools/repeat.py in the seat of RestrictSmall) -/
namespace Go.Proofs.YtbgnkljjgfcngaaGreat
open Go Go.RowKit Go.Lib Sp
set_option linter.unusedVariables false
set_option linter.unusedSimpArgs false

set_option linter.unusedVariables false
def RpIntV (W0 : World) (g n m len : Nat) (ys : List Value) : Nat → Value → Prop
  | 0, v => v = .int .i64 n
  | 1, v => v = .slice (some ⟨g, 0, none⟩) len len
  | 2, v => v = .int .i64 n
  | 3, v => v = .slice (some ⟨g, n, none⟩) (len - n) (len - n)
  | 4, v => v = .slice (some ⟨g, 0, none⟩) len len
  | 5, v => v = .int .i64 n
  | 6, v => v = .slice (some ⟨g, 0, none⟩) n len
  | 7, v => v = .int .i64 m
  | 8, v => v = .int .i64 ((n : Int) + m)
  | 9, v => v = .int .i64 ((n : Int) + m)
  | _, _ => True
def RpIntW (W0 : World) (g n m len : Nat) (ys : List Value) (l : Nat → Bool) (w : World) : Prop := Keep [g] W0 w ∧ ∃ cur, w.heap[g]? = some (.cells cur 3 (0, 0)) ∧ RepSt ys (if l 7 then n + m else n) len cur

set_option maxRecDepth 100000 in
set_option maxHeartbeats 2000000 in
theorem RpInt_any (A : Option Addr) (ca : Nat) (ys : List Value) (hy : ys.length = 1) (h1 : ∀ v ∈ ys, v.oneCell' = true) (len : Nat) (hl : 0 < len) (hl2 : len < 100000) (w : World) (hr : Rd w 1 A 1 ys) :
    Calls Tryz.prog 10 #[.slice A 1 ca, .int .i64 len] w fun e w' => ∃ g, e = .returned (.slice (some ⟨g, 0, none⟩) len len) ∧ (∃ cur, w'.heap[g]? = some (.cells cur 3 (0, 0)) ∧ RepSt ys len len cur) ∧ w.heap.size ≤ g ∧ Below w.heap.size w w' := by
  obtain ⟨b, off, rfl, hb, hc⟩ := hr.2 (by omega)
  have HY := Lib.hid (And.intro hy h1)
  obtain ⟨i0, hi, hz0, hz1, hz2⟩ := info_parts (show (Tryz.prog.info? 3).map (fun i => (i.zero, i.size, i.bytes)) = some (some (.int .i64 0), 1, 8) from by kernel_rfl)
  obtain ⟨C, hC⟩ : ∃ C, C = madeCells (Value.int .i64 0).cells (len * 1) := ⟨_, rfl⟩
  have hCs : C.size = len * 1 := by rw [hC, size_madeCells]
  have hmk : ∀ w : World, (Instr.makeSlice 22 (.int .i64 len) (.int .i64 len)).run Tryz.prog w = .ok (.slice (some ⟨w.heap.size, 0, none⟩) len len) (w.alloc (.cells C 3)) := fun w => by
    have := run_makeSlice (P := Tryz.prog) w 22 3 i0 _ Tryz.underlying22 hi hz0 .i64 .i64 (len : Int) (len : Int) (by omega) (by omega) (by rw [hz1]; simp; omega) (by rw [hz2]; omega) (by omega)
    rw [hz1] at this
    simp only [Int.toNat_natCast] at this
    rw [hC]; exact this
  have hu1 : IntKind.u64.wrap (len : Int) = (len : Int) := by rw [IntKind.wrap_u64]; omega
  have hu2 : IntKind.i64.wrap (len : Int) = (len : Int) := by rw [IntKind.wrap_i64]; omega
  have n1 : ¬ (len : Int) < 0 := by omega
  have n2 : ¬ (9223372036854775807 : Int) < (len : Int) := by omega
  obtain ⟨W, hW⟩ : ∃ W, W = w.alloc (.cells C 3) := ⟨_, rfl⟩
  obtain ⟨g, hg⟩ : ∃ g, g = w.heap.size := ⟨_, rfl⟩
  have hh : W.heap[g]? = some (.cells C 3 (0, 0)) := by rw [hW, hg]; exact heap_alloc_new _ _
  have bW : Below w.heap.size w W := by rw [hW]; exact (Below.refl _ _).alloc (Nat.le_refl _) _
  have hgw : w.heap.size ≤ g := by omega
  obtain ⟨w2, hrun, ⟨cur1, q1, q2⟩, q3⟩ := rep_first (P := Tryz.prog) (w := W) (dT := 22) (sT := 22) (ty := 3) (dCap := len) (sCap := ca) (ad := ⟨b, off, none⟩) (ys := ys) Tryz.underlying22 (by rw [hy]; kernel_rfl) (by omega) h1 hh (by rw [hCs, hy]) hl
    (fun j v hj => by
      have := hc j v hj
      rw [show (⟨b, off, none⟩ : Addr).add j = ⟨b, off + j, none⟩ from by by_cases h : j = 0 <;> simp [Addr.add, h]]
      exact (bW.cell (p := ⟨b, off + j, none⟩) hb).trans this)
  have HR := Lib.hid (And.intro hh (And.intro bW (And.intro hgw (And.intro q1 (And.intro q2 q3)))))
  have HRUN := Lib.hid hrun
  clear hh bW q1 q2 q3 hrun hc hr hi hz0 hz1 hz2 hC hCs hy h1
  go_enter Tryz.func10, Tryz.ntmps10
  go_upto_region 7 with (go_at_call 64; refine (mul_any len (by omega) _).mono ?_; rintro e w' ⟨rfl, rfl⟩)
  rw [← hW, ← hg]
  clear hmk hu1 hu2 n1 n2 hW hg
  go_wp2_with (refine wpList_copy_run rfl (.tmp 31) (.tmp 32) 22 22 rfl _ _ rfl rfl _ _ HRUN.out ?_)
  go_loopw [8] (fun v wr => ∃ (n : Nat) (cur0 : Array Value), 1 ≤ n ∧ n ≤ len ∧ v = .int .i64 n ∧ wr.heap[g]? = some (.cells cur0 3 (0, 0)) ∧ RepSt ys n len cur0 ∧ Keep [g] W wr) (fun v _ => len - (intOf v).toNat)
  case atStart => exact ⟨1, cur1, by omega, by omega, rfl, HR.out.2.2.2.1, HR.out.2.2.2.2.1, HR.out.2.2.2.2.2⟩
  case round =>
    obtain ⟨n, cur0, hn1, hn2, rfl, hcur, hrep, hK⟩ := hrel
    have HC := Lib.hid (And.intro hcur hrep)
    have HK := Lib.hid hK
    clear hcur hrep hK
    by_cases hlt : n < len
    · obtain ⟨m, hm⟩ : ∃ m, m = min n (len - n) := ⟨_, rfl⟩
      have hmb : 1 ≤ m ∧ m ≤ len - n := by omega
      obtain ⟨hm1, hm2⟩ := hmb
      have HM := Lib.hid hm
      have hlt' : (n : Int) < (len : Int) := by omega
      clear hm
      go_upto_region 9 with fail
      refine wp_region_steps (σ := Unit) (by kernel_rfl) (by kernel_rfl) (fun _ jx vx _ => RpIntV wr g n m len ys jx vx) (fun _ ly wx => RpIntW wr g n m len ys ly wx) () ?_ ?_ ?_
      · exact ⟨(Keep.refl _ _).drew, cur0, HC.out.1, by rw [if_neg (by simp)]; exact HC.out.2⟩
      · simp only [AllFrom, Nat.zero_add, Nat.reduceAdd]
        refine ⟨?_, ?_, ?_, ?_, ?_, ?_, ?_, ?_, ?_, ?_, trivial⟩
        · refine step_pure fun sg ly a wr hl hd hW hF => ?_
          have ny8_8 := hF.notYet 0 8 hl (by kernel_rfl)
          have ny8 := hF.notYet 8 9 ny8_8 (by kernel_rfl)
          have et8 := hF.was 9 8 ny8 (by kernel_rfl)
          simp [Act.eval] at et8
          exact ⟨by simpa [RpIntW, upd] using hW, .int .i64 n, by go_simp, rfl⟩
        · refine step_pure fun sg ly a wr hl hd hW hF => ?_
          have et7 := hF.old 7 (by kernel_rfl)
          simp [Act.eval] at et7
          exact ⟨by simpa [RpIntW, upd] using hW, .slice (some ⟨g, 0, none⟩) len len, by go_simp, rfl⟩
        · refine step_pure fun sg ly a wr hl hd hW hF => ?_
          have ny8_3 := hF.notYet 2 3 hl (by kernel_rfl)
          have ny8_7 := hF.notYet 3 7 ny8_3 (by kernel_rfl)
          have ny8_8 := hF.notYet 7 8 ny8_7 (by kernel_rfl)
          have ny8 := hF.notYet 8 9 ny8_8 (by kernel_rfl)
          have et8 := hF.was 9 8 ny8 (by kernel_rfl)
          simp [Act.eval] at et8
          exact ⟨by simpa [RpIntW, upd] using hW, .int .i64 n, by go_simp, rfl⟩
        · refine step_pure fun sg ly a wr hl hd hW hF => ?_
          simp [Region.binds] at hd
          have et39 := hF.new 1 39 (by simp [hd]) rfl
          simp [RpIntV, Act.eval] at et39
          have et40 := hF.new 2 40 (by simp [hd]) rfl
          simp [RpIntV, Act.eval] at et40
          have b1 : (0 : Int) ≤ (n : Int) := by omega
          have b2 : (n : Int) ≤ (len : Int) := by omega
          have b3 : n < len := hlt
          have b4 : ¬ len = n := by omega
          exact ⟨by simpa [RpIntW, upd] using hW, .slice (some ⟨g, n, none⟩) (len - n) (len - n), by go_simp, rfl⟩
        · refine step_pure fun sg ly a wr hl hd hW hF => ?_
          have et7 := hF.old 7 (by kernel_rfl)
          simp [Act.eval] at et7
          exact ⟨by simpa [RpIntW, upd] using hW, .slice (some ⟨g, 0, none⟩) len len, by go_simp, rfl⟩
        · refine step_pure fun sg ly a wr hl hd hW hF => ?_
          have ny8_6 := hF.notYet 5 6 hl (by kernel_rfl)
          have ny8_7 := hF.notYet 6 7 ny8_6 (by kernel_rfl)
          have ny8_8 := hF.notYet 7 8 ny8_7 (by kernel_rfl)
          have ny8 := hF.notYet 8 9 ny8_8 (by kernel_rfl)
          have et8 := hF.was 9 8 ny8 (by kernel_rfl)
          simp [Act.eval] at et8
          exact ⟨by simpa [RpIntW, upd] using hW, .int .i64 n, by go_simp, rfl⟩
        · refine step_pure fun sg ly a wr hl hd hW hF => ?_
          simp [Region.binds] at hd
          have et42 := hF.new 4 42 (by simp [hd]) rfl
          simp [RpIntV, Act.eval] at et42
          have et43 := hF.new 5 43 (by simp [hd]) rfl
          simp [RpIntV, Act.eval] at et43
          have b1 : (0 : Int) ≤ (n : Int) := by omega
          have b2 : (n : Int) ≤ (len : Int) := by omega
          exact ⟨by simpa [RpIntW, upd] using hW, .slice (some ⟨g, 0, none⟩) n len, by go_simp, rfl⟩
        · refine step_run fun sg ly a wr hl hd hW hF => ?_
          simp [Region.binds] at hd
          have et41 := hF.new 3 41 (by simp [hd]) rfl
          simp [RpIntV, Act.eval] at et41
          have et44 := hF.new 6 44 (by simp [hd]) rfl
          simp [RpIntV, Act.eval] at et44
          obtain ⟨hK, cur, hh, hR⟩ := hW
          rw [if_neg (by simp [hl])] at hR
          obtain ⟨w', hrun, ⟨cur', h1, h2⟩, h3, _⟩ := rep_copy (P := Tryz.prog) (dT := 22) (sT := 22) (ty := 3) (dCap := len - n) (sCap := len) (m := m) Tryz.underlying22 (by rw [HY.out.1]; kernel_rfl) (by rw [HY.out.1]; decide) HY.out.2 hh hR (by omega) HM.out
          rw [HY.out.1, Nat.mul_one] at hrun
          refine ⟨.int .i64 m, w', (), ?_, ⟨hK.trans h3 (by simp), cur', h1, by rw [if_pos (by simp [upd])]; exact h2⟩, rfl, fun _ _ _ h => h⟩
          simp [execOp, resolve, invoke, builtin, Act.eval, et41, et44, hrun, Result.andThen, goInt]
        · refine step_pure fun sg ly a wr hl hd hW hF => ?_
          simp [Region.binds] at hd
          have et38 := hF.new 0 38 (by simp [hd]) rfl
          simp [RpIntV, Act.eval] at et38
          have et45 := hF.new 7 45 (by simp [hd]) rfl
          simp [RpIntV, Act.eval] at et45
          have ew := IntWalk.i64_in ((n : Int) + m) (by omega)
          exact ⟨by simpa [RpIntW, upd] using hW, .int .i64 ((n : Int) + m), by go_simp, rfl⟩
        · refine step_pure fun sg ly a wr hl hd hW hF => ?_
          simp [Region.binds] at hd
          have et46 := hF.new 8 46 (by simp [hd]) rfl
          simp [RpIntV, Act.eval] at et46
          exact ⟨by simpa [RpIntW, upd] using hW, .int .i64 ((n : Int) + m), by go_simp, rfl⟩
      intro _ a w5 hW hF
      have e8 := hF.new 9 8 (by decide) rfl
      obtain ⟨f, hf, rfl⟩ := hF.lit
      rw [← hf] at e8
      simp only [RpIntV] at e8
      obtain ⟨hK5, cur5, h5, hR5⟩ := hW
      simp only [List.length_cons, List.length_nil, Nat.reduceAdd, Nat.reduceLT, decide_true, if_true] at hR5
      have H5 := Lib.hid (And.intro hK5 (And.intro h5 hR5))
      clear hf hF hK5 h5 hR5
      simp only [List.filterMap, List.foldl, List.setIfInBounds_toArray, List.set_cons_succ, List.set_cons_zero, e8]
      clear e8
      go_wp2_with fail
      go_roundw
      case measure => simp [intOf]; omega
      case rel => exact ⟨n + m, cur5, by omega, by omega, by simp, H5.out.2.1, H5.out.2.2, HK.out.trans H5.out.1 (by simp)⟩
    · obtain rfl : n = len := by omega
      go_wp2_with fail
      go_ret
      exact ⟨g, rfl, ⟨cur0, HC.out.1, HC.out.2⟩, HR.out.2.2.1, HR.out.2.1.trans (HK.out.below HR.out.2.1.size (by simpa using HR.out.2.2.1))⟩
end Go.Proofs.YtbgnkljjgfcngaaGreat
