/- RestrictCharts: the middle of a day (printed by wip/tools/cha.py) -/
import Derived.Test.YtfmhlnfcbbpfeaaRCp29
import Derived.Laws.EntriesVeiled
set_option linter.unusedVariables false
namespace Go.Proofs.Ytfmhlnfcbbpfeaa
open Go Go.RowKit Go.Lib Sp
set_option linter.unusedVariables false
set_option linter.unusedSimpArgs false

theorem heap_rd {w : World} {g : Nat} {xs : List Value} {t : TypeId} {fr : Nat × Nat} {sz n : Nat} (h : w.heap[g]? = some (.cells xs.toArray t fr)) (hn : xs.length = n * sz) : Rd w sz (some ⟨g, 0, none⟩) n xs :=
  ⟨hn, fun _ => ⟨g, 0, rfl, heap_lt h, fun j u hu => by rw [Nat.zero_add]; exact (cell_of_heap h j).trans (by simpa using hu)⟩⟩
theorem outL_all {n : Nat} {l : List Int} (h : ∀ x ∈ l, 0 ≤ x ∧ x < n) : outL n l = false := by
  cases e : outL n l with
  | false => rfl
  | true =>
    obtain ⟨x, hx, h2⟩ := List.any_eq_true.1 e
    have := h x hx
    simp [within] at h2
    omega
theorem dist_ok {a b c : Int} {l : List Cel} {ns : List Int} (h : chartE a b c l = 0) (h0 : 0 < ns.length) (hn : ∀ x ∈ ns, 0 ≤ x ∧ x < l.length) : distE a b c l ns = 0 ∧ distV a b c l ns = (distN celLo l ns, distN celHi l ns) := by
  have e : distE a b c l ns = 0 := by unfold distE; rw [if_neg (fun f => f h), if_neg (fun f => by rcases f with f | f; omega; rw [outL_all hn] at f; cases f)]
  exact ⟨e, by unfold distV; rw [if_pos e]⟩
theorem chart_aged {a b c : Int} {l : List Cel} {u d : Ice} {h : Int} (hce : chartE a b c l = 0) (hr : rtOk u d) (hh : 0 ≤ h ∧ h ≤ 10000) (hs : sizeE a b (c + h) = 0) : chartE a b (c + h) (l.map fun x => ageCel x u d h) = 0 := by
  have hl := chart_ok hce
  have he : (l.length : Int) = a * b := by
    unfold chartE at hce
    split at hce
    · rename_i h1; exact absurd hce h1
    · split at hce
      · cases hce
      · rename_i h2; simpa using h2
  unfold chartE
  rw [if_neg (fun f => f hs), List.length_map, if_neg (fun f => f he)]
  unfold celsE
  rw [if_pos]
  rw [List.all_eq_true]
  intro y hy
  obtain ⟨x, hx, rfl⟩ := List.mem_map.1 hy
  exact (age_bds (hl x hx) hr hh).1
theorem rt_of {u d : Ice} (hu : (0 ≤ u.con ∧ u.con ≤ 255) ∧ (0 ≤ u.thk ∧ u.thk ≤ 255) ∧ (0 ≤ u.rid ∧ u.rid ≤ 255) ∧ (0 ≤ u.prs ∧ u.prs ≤ 29)) (hd : (0 ≤ d.con ∧ d.con ≤ 255) ∧ (0 ≤ d.thk ∧ d.thk ≤ 255) ∧ (0 ≤ d.rid ∧ d.rid ≤ 255) ∧ (0 ≤ d.prs ∧ d.prs ≤ 29)) : rtOk u d := by
  intro k hk
  rcases (by omega : k = 0 ∨ k = 1 ∨ k = 2 ∨ k = 3) with rfl | rfl | rfl | rfl <;> simp only [iceN] <;> omega

structure CgxS where
  u : Ice
  d : Ice
  h : Int
  A : Option Addr
  c : Nat
  q : List Nat
  b : Nat
def RtB (u : Ice) : Prop := (0 ≤ u.con ∧ u.con ≤ 255) ∧ (0 ≤ u.thk ∧ u.thk ≤ 255) ∧ (0 ≤ u.rid ∧ u.rid ≤ 255) ∧ (0 ≤ u.prs ∧ u.prs ≤ 29)
structure CgxW (c : ChC) (W1 : World) (l : List Cel) (wn day : Int) (s : CgxS) (f : Nat → Bool) (w : World) : Prop where
  st : ChS c W1 w
  ru : f 2 = true → RtB s.u
  rd : f 4 = true → RtB s.d
  rh : f 7 = true → 0 ≤ s.h ∧ s.h < 50
  ag : f 8 = true → OwnS w 123 8 s.A l.length s.c (cels (l.map fun x => ageCel x s.u s.d s.h)) s.q ∧ ∀ g ∈ s.q, W1.heap.size ≤ g
  ob : f 12 = true → W1.heap.size ≤ s.b ∧ w.heap[s.b]? = some (.cells (if f 13 then #[.int .i64 wn, .int .i64 1, .int .i64 (day + s.h), .slice s.A l.length s.c] else #[.int .i64 0, .int .i64 0, .int .i64 0, .slice none 0 0]) 114 (0, 0))
  ne : f 8 = true → f 12 = true → s.b ∉ s.q
section
variable {c : ChC} {W1 : World} {l : List Cel} {wn day : Int} {s : CgxS} {f : Nat → Bool} {w w' : World}
theorem CgxW.other (h : CgxW c W1 l wn day s f w) (i : Nat) (hi : i ≠ 2 ∧ i ≠ 4 ∧ i ≠ 7 ∧ i ≠ 8 ∧ i ≠ 12 ∧ i ≠ 13) : CgxW c W1 l wn day s (upd f i) w := by
  obtain ⟨a1, a2, a3, a4, a5, a6⟩ := hi
  refine ⟨h.st, ?_, ?_, ?_, ?_, ?_, ?_⟩
  · rw [upd_n (Ne.symm a1)]; exact h.ru
  · rw [upd_n (Ne.symm a2)]; exact h.rd
  · rw [upd_n (Ne.symm a3)]; exact h.rh
  · rw [upd_n (Ne.symm a4)]; exact h.ag
  · rw [upd_n (Ne.symm a5), upd_n (Ne.symm a6)]; exact h.ob
  · rw [upd_n (Ne.symm a4), upd_n (Ne.symm a5)]; exact h.ne
theorem CgxW.obk (h : CgxW c W1 l wn day s f w) (E : ChE c W1) (hk : Keep [c.ibr] w w') : f 12 = true → w'.heap[s.b]? = w.heap[s.b]? := fun h12 => hk.block _ (heap_lt (h.ob h12).2) (by have := (h.ob h12).1; have := E.nr.lt; simp; omega)
theorem CgxW.rateU (h : CgxW c W1 l wn day s f w) (E : ChE c W1) (n8 : f 8 = false) {r : Ice} (hr : RtB r) (hn : NxS c.D w' c.ibr c.lbr) (hk : Keep [c.ibr] w w') : CgxW c W1 l wn day { s with u := r } (upd f 2) w' := by
  refine ⟨h.st.rate hn hk E, ?_, ?_, ?_, ?_, ?_, ?_⟩
  · exact fun _ => hr
  · rw [upd_n (show 4 ≠ 2 by decide)]; exact h.rd
  · rw [upd_n (show 7 ≠ 2 by decide)]; exact h.rh
  · rw [upd_n (show 8 ≠ 2 by decide), n8]; exact fun e => by cases e
  · rw [upd_n (show 12 ≠ 2 by decide), upd_n (show 13 ≠ 2 by decide)]; exact fun e => ⟨(h.ob e).1, (h.obk E hk e).trans (h.ob e).2⟩
  · rw [upd_n (show 8 ≠ 2 by decide), n8]; exact fun e => by cases e
theorem CgxW.rateD (h : CgxW c W1 l wn day s f w) (E : ChE c W1) (n8 : f 8 = false) {r : Ice} (hr : RtB r) (hn : NxS c.D w' c.ibr c.lbr) (hk : Keep [c.ibr] w w') : CgxW c W1 l wn day { s with d := r } (upd f 4) w' := by
  refine ⟨h.st.rate hn hk E, ?_, ?_, ?_, ?_, ?_, ?_⟩
  · rw [upd_n (show 2 ≠ 4 by decide)]; exact h.ru
  · exact fun _ => hr
  · rw [upd_n (show 7 ≠ 4 by decide)]; exact h.rh
  · rw [upd_n (show 8 ≠ 4 by decide), n8]; exact fun e => by cases e
  · rw [upd_n (show 12 ≠ 4 by decide), upd_n (show 13 ≠ 4 by decide)]; exact fun e => ⟨(h.ob e).1, (h.obk E hk e).trans (h.ob e).2⟩
  · rw [upd_n (show 8 ≠ 4 by decide), n8]; exact fun e => by cases e
theorem CgxW.rateH (h : CgxW c W1 l wn day s f w) (E : ChE c W1) (n8 : f 8 = false) (n13 : f 13 = false) {r : Int} (hr : 0 ≤ r ∧ r < 50) (hn : NxS c.D w' c.ibr c.lbr) (hk : Keep [c.ibr] w w') : CgxW c W1 l wn day { s with h := r } (upd f 7) w' := by
  refine ⟨h.st.rate hn hk E, ?_, ?_, ?_, ?_, ?_, ?_⟩
  · rw [upd_n (show 2 ≠ 7 by decide)]; exact h.ru
  · rw [upd_n (show 4 ≠ 7 by decide)]; exact h.rd
  · exact fun _ => hr
  · rw [upd_n (show 8 ≠ 7 by decide), n8]; exact fun e => by cases e
  · rw [upd_n (show 12 ≠ 7 by decide), upd_n (show 13 ≠ 7 by decide)]; rw [n13]; exact fun e => ⟨(h.ob e).1, by have := (h.ob e).2; rw [n13] at this; exact (h.obk E hk e).trans this⟩
  · rw [upd_n (show 8 ≠ 7 by decide), n8]; exact fun e => by cases e
theorem CgxW.aged (h : CgxW c W1 l wn day s f w) (E : ChE c W1) (n13 : f 13 = false) {A' : Option Addr} {c' : Nat} {q : List Nat} (ho : OwnS w' 123 8 A' l.length c' (cels (l.map fun x => ageCel x s.u s.d s.h)) q) (hq : ∀ g ∈ q, w.heap.size ≤ g) (hb : Below w.heap.size w w') : CgxW c W1 l wn day { s with A := A', c := c', q := q } (upd f 8) w' := by
  refine ⟨h.st.below hb E, ?_, ?_, ?_, ?_, ?_, ?_⟩
  · rw [upd_n (show 2 ≠ 8 by decide)]; exact h.ru
  · rw [upd_n (show 4 ≠ 8 by decide)]; exact h.rd
  · rw [upd_n (show 7 ≠ 8 by decide)]; exact h.rh
  · exact fun _ => ⟨ho, fun g hg => Nat.le_trans h.st.kp.size (hq g hg)⟩
  · rw [upd_n (show 12 ≠ 8 by decide), upd_n (show 13 ≠ 8 by decide), n13]
    exact fun e => ⟨(h.ob e).1, by have := (h.ob e).2; rw [n13] at this; exact (hb.block _ (heap_lt this)).trans this⟩
  · rw [upd_n (show 12 ≠ 8 by decide)]
    exact fun _ e hm => by have := hq _ hm; have := heap_lt (h.ob e).2; simp only at *; omega
theorem CgxW.made (h : CgxW c W1 l wn day s f w) (E : ChE c W1) (n13 : f 13 = false) : CgxW c W1 l wn day { s with b := w.heap.size } (upd f 12) (w.alloc (.cells #[.int .i64 0, .int .i64 0, .int .i64 0, .slice none 0 0] 114)) := by
  refine ⟨h.st.below ((Below.refl _ _).alloc (Nat.le_refl _) _) E, ?_, ?_, ?_, ?_, ?_, ?_⟩
  · rw [upd_n (show 2 ≠ 12 by decide)]; exact h.ru
  · rw [upd_n (show 4 ≠ 12 by decide)]; exact h.rd
  · rw [upd_n (show 7 ≠ 12 by decide)]; exact h.rh
  · rw [upd_n (show 8 ≠ 12 by decide)]; exact fun e => ⟨(h.ag e).1.alloc _, (h.ag e).2⟩
  · rw [upd_n (show 13 ≠ 12 by decide), n13]; exact fun _ => ⟨h.st.kp.size, heap_alloc_new _ _⟩
  · rw [upd_n (show 8 ≠ 12 by decide)]; exact fun e _ hm => by have := (h.ag e).1.lt _ hm; simp only at this; omega
theorem CgxW.store (h : CgxW c W1 l wn day s f w) (E : ChE c W1) (y8 : f 8 = true) (y12 : f 12 = true) (n13 : f 13 = false) : CgxW c W1 l wn day s (upd f 13) ((((w.setCell ⟨s.b, 0, none⟩ (.int .i64 wn)).setCell ⟨s.b, 1, none⟩ (.int .i64 1)).setCell ⟨s.b, 2, none⟩ (.int .i64 (day + s.h))).setCell ⟨s.b, 3, none⟩ (.slice s.A l.length s.c)) := by
  have K := keep4 w s.b (.int .i64 wn) (.int .i64 1) (.int .i64 (day + s.h)) (.slice s.A l.length s.c)
  have hq := (h.ob y12).2
  rw [n13] at hq
  refine ⟨h.st.keep K (fun x hx => by rw [List.mem_singleton.1 hx]; exact (h.ob y12).1) E, ?_, ?_, ?_, ?_, ?_, ?_⟩
  · rw [upd_n (show 2 ≠ 13 by decide)]; exact h.ru
  · rw [upd_n (show 4 ≠ 13 by decide)]; exact h.rd
  · rw [upd_n (show 7 ≠ 13 by decide)]; exact h.rh
  · rw [upd_n (show 8 ≠ 13 by decide)]; exact fun e => ⟨(h.ag e).1.keepS K (fun g hg hm => by rw [List.mem_singleton.1 hm] at hg; exact h.ne y8 y12 hg), (h.ag e).2⟩
  · rw [upd_n (show 12 ≠ 13 by decide), show upd f 13 13 = true from if_pos rfl]
    exact fun e => ⟨(h.ob e).1, heap_set (heap_set (heap_set (heap_set hq 0 (.int .i64 wn)) 1 (.int .i64 1)) 2 (.int .i64 (day + s.h))) 3 (.slice s.A l.length s.c)⟩
  · rw [upd_n (show 8 ≠ 13 by decide), upd_n (show 12 ≠ 13 by decide)]; exact h.ne
end

set_option linter.unusedVariables false
def CgxV (c : ChC) (W1 : World) (l : List Cel) (g : Nat) (wn day : Int) (s : CgxS) : Nat → Value → Prop
  | 0, v => v = .agg #[.int .i64 wn, .int .i64 1, .int .i64 day, .slice (some ⟨g, 0, none⟩) l.length l.length]
  | 1, v => v = .func (.func 68) #[] #[.pointer (some ⟨c.rb, 0, none⟩)]
  | 2, v => v = .agg (ic4 s.u)
  | 3, v => v = .func (.func 68) #[] #[.pointer (some ⟨c.rb, 0, none⟩)]
  | 4, v => v = .agg (ic4 s.d)
  | 5, v => v = .agg (rtA s.u s.d)
  | 6, v => v = fnAt c.ibr c.lbr
  | 7, v => v = .int .i64 s.h
  | 8, v => v = .tuple #[.agg #[.int .i64 wn, .int .i64 1, .int .i64 (day + s.h), .slice s.A l.length s.c], .int .i64 0]
  | 9, v => v = .tuple #[.agg #[.int .i64 wn, .int .i64 1, .int .i64 (day + s.h), .slice s.A l.length s.c], .int .i64 0]
  | 10, v => v = .agg #[.int .i64 wn, .int .i64 1, .int .i64 (day + s.h), .slice s.A l.length s.c]
  | 11, v => v = .int .i64 0
  | 12, v => v = .pointer (some ⟨s.b, 0, none⟩)
  | 14, v => v = .int .i64 0
  | _, _ => True
def CgxR (c : ChC) (W1 : World) (l : List Cel) (g : Nat) (wn day : Int) (s : CgxS) (f : Nat → Bool) (w : World) : Prop := CgxW c W1 l wn day s f w
set_option maxRecDepth 100000 in
set_option maxHeartbeats 4000000 in
theorem charts_a {c : ChC} {X W0 w1 : World} {n : Nat} {A : Nat → Option Addr} {k : Nat → Nat} {ls lv : List (Int × Int)} {ld : List Int} {Af : Option Addr} {cf : Nat} {f : List Ice} {qf : List Nat} {cb g : Nat} {wn day : Int} {l : List Cel} (E : ChE c X) (S0 : ChS c X W0) (S1 : ChS c W0 w1) (L : ChL X W0 n A k ls lv ld) (hn10 : n ≤ 10) (hf : OwnS w1 111 4 Af f.length cf (ics f) qf) (hqf : ∀ y ∈ qf, W0.heap.size ≤ y)
    (hcb : w1.heap[cb]? = some (.cells #[.int .i64 wn, .int .i64 1, .int .i64 day, .slice (some ⟨g, 0, none⟩) l.length l.length] 114 (0, 0))) (hg : w1.heap[g]? = some (.cells (cels l).toArray 123 (0, 0))) (hcg : W0.heap.size ≤ cb ∧ W0.heap.size ≤ g) (hh : holdAll l f) (hce : chartE wn 1 day l = 0) (hday : 0 ≤ day ∧ day ≤ 10) (hns : ∀ x ∈ c.ns, 0 ≤ x ∧ x < l.length) (hn5 : c.ns.length ≤ 5) (hn0 : 0 < c.ns.length) (hl4 : l.length ≤ 4) {s0 s1 s2 s3 s4 s5 s6 s7 s8 s9 s10 s11 s12 s15 s17 s18 s22 s24 s26 s27 s28 s29 s30 s31 s32 s33 s34 s35 s36 s37 s38 s39 s40 s41 s42 s43 s44 s45 s46 s47 s48 s49 s50 s51 s52 s53 s54 s55 s56 s57 s58 s59 s60 s61 s62 s63 s64 s65 s66 s67 s68 s69 s70 s71 s72 s73 s74 s75 s76 s77 s78 s79 s80 s81 s82 s83 s84 s85 s86 s87 s88 s89 s90 s91 s92 s93 s94 s95 s96 s97 s98 s99 s100 s101 s102 s103 s104 s105 s106 s107 s108 s109 s110 s111 s112 s113 s114 s115 s116 s117 s118 s119 s120 s121 s122 s123 s124 s125 s126 s127 s128 s129 s130 s131 s132 s133 s134 s135 s136 s137 s138 s139 s140 s141 s142 s143 s144 s145 s146 s147 s148 s149 s150 s151 s152 s153 s154 s155 s156 s157 s158 s159 s160 s161 s162 s163 s164 s165 s166 s167 s168 s169 s170 s171 s172 s173 s174 s175 s176 s177 s178 s179 s180 s181 s182 s183 s184 s185 s186 s187 s188 s189 s190 s191 s192 s193 s194 s195 s196 s197 s198 s199 s200 s201 s202 s203 s204 s205 s206 s207 s208 s209 s210 s211 s212 s213 s214 s215 s216 s217 s218 s219 s220 s221 s222 s223 s224 s225 s226 s227 s228 s229 s230 s231 s232 s233 s234 s235 s236 s237 s238 s239 s240 s241 s242 s243 s244 s245 s246 s247 s248 s249 s250 s251 s252 s253 s254 s255 s256 s257 s258 s259 s260 s261 s262 s263 s264 s265 s266 s267 s268 s269 s270 s271 s272 s273 s274 s275 s276 s277 s278 s279 s280 s281 s282 s283 s284 s285 s286 s287 s288 s289 s290 s291 s292 s293 s294 s295 s296 s297 s298 s299 s300 s301 s302 s303 s304 s305 s306 s307 s308 s309 s310 s311 s312 s313 s314 s315 s316 s317 s318 s319 s320 s321 s322 s323 s324 s325 s326 s327 s328 s329 s330 s331 s332 s333 s334 s335 s336 s337 s338 s339 s340 s341 s342 s343 s344 s345 s346 s347 s348 s349 : Value} {Q0 : Exit → Act → World → Prop}
    (hInv : ∀ (t10 t24 t29 t30 t31 t32 t33 t34 t35 t36 t38 t39 t40 t145 t146 t147 t148 t149 t150 t151 t152 t153 t154 t155 t156 t157 t158 t159 t160 t161 t162 t163 t164 t165 t166 t167 t168 t169 t170 t171 t172 t173 t174 t175 t176 t177 t178 t179 t180 t181 t182 t183 t184 t185 t186 t187 t188 t189 t190 t191 t192 t193 t194 t195 t196 t197 t198 t199 t200 t201 t202 t203 t204 t205 t206 t207 t208 t209 t210 t211 t212 t213 t214 t215 t216 t217 t218 t219 t220 t221 t222 t223 t224 t225 t226 t227 t228 t229 t230 t231 t232 t233 t234 t235 t236 t237 t238 t239 t240 t241 t242 t243 t244 t245 t246 t247 t248 : Value) (A' : Nat → Option Addr) (k' : Nat → Nat) (s' v' : List (Int × Int)) (d' : List Int) (w' : World), ChS c X w' ∧ ChL X w' (n + 1) A' k' s' v' d' → Q0 .normal ⟨#[s0, s1, s2, s3, s4, s5, s6, s7, s8, s9, t10, s11, s12, .pointer (some ⟨c.rb, 0, none⟩), .func (.func 68) #[] #[.pointer (some ⟨c.rb, 0, none⟩)], s15, .slice c.Ad c.ns.length c.cd, s17, s18, .slice (A' 0) (n + 1) (k' 0), .slice (A' 1) (n + 1) (k' 1), .slice (A' 2) (n + 1) (k' 2), s22, .pointer (some ⟨cb, 0, none⟩), t24, .slice Af f.length cf, s26, s27, s28, t29, t30, t31, t32, t33, t34, t35, t36, s37, t38, t39, t40, s41, s42, s43, s44, s45, s46, s47, s48, s49, s50, s51, s52, s53, s54, s55, s56, s57, s58, s59, s60, s61, s62, s63, s64, s65, s66, s67, s68, s69, s70, s71, s72, s73, s74, s75, s76, s77, s78, s79, s80, s81, s82, s83, s84, s85, s86, s87, s88, s89, s90, s91, s92, s93, s94, s95, s96, s97, s98, s99, s100, s101, s102, s103, s104, s105, s106, s107, s108, s109, s110, s111, s112, s113, s114, s115, s116, s117, s118, s119, s120, s121, s122, s123, s124, s125, s126, s127, s128, s129, s130, s131, s132, s133, s134, s135, s136, s137, s138, s139, s140, s141, s142, s143, s144, t145, t146, t147, t148, t149, t150, t151, t152, t153, t154, t155, t156, t157, t158, t159, t160, t161, t162, t163, t164, t165, t166, t167, t168, t169, t170, t171, t172, t173, t174, t175, t176, t177, t178, t179, t180, t181, t182, t183, t184, t185, t186, t187, t188, t189, t190, t191, t192, t193, t194, t195, t196, t197, t198, t199, t200, t201, t202, t203, t204, t205, t206, t207, t208, t209, t210, t211, t212, t213, t214, t215, t216, t217, t218, t219, t220, t221, t222, t223, t224, t225, t226, t227, t228, t229, t230, t231, t232, t233, t234, t235, t236, t237, t238, t239, t240, t241, t242, t243, t244, t245, t246, t247, t248, s249, s250, s251, s252, s253, s254, s255, s256, s257, s258, s259, s260, s261, s262, s263, s264, s265, s266, s267, s268, s269, s270, s271, s272, s273, s274, s275, s276, s277, s278, s279, s280, s281, s282, s283, s284, s285, s286, s287, s288, s289, s290, s291, s292, s293, s294, s295, s296, s297, s298, s299, s300, s301, s302, s303, s304, s305, s306, s307, s308, s309, s310, s311, s312, s313, s314, s315, s316, s317, s318, s319, s320, s321, s322, s323, s324, s325, s326, s327, s328, s329, s330, s331, s332, s333, s334, s335, s336, s337, s338, s339, s340, s341, s342, s343, s344, s345, s346, s347, s348, s349], []⟩ w') :
    Code.wp Try.prog (restB 37 (loopBody Try.f12 1)) Q0 ⟨#[s0, s1, s2, s3, s4, s5, s6, s7, s8, s9, s10, s11, s12, .pointer (some ⟨c.rb, 0, none⟩), .func (.func 68) #[] #[.pointer (some ⟨c.rb, 0, none⟩)], s15, .slice c.Ad c.ns.length c.cd, s17, s18, .slice (A 0) n (k 0), .slice (A 1) n (k 1), .slice (A 2) n (k 2), s22, .pointer (some ⟨cb, 0, none⟩), s24, .slice Af f.length cf, s26, s27, s28, s29, s30, s31, s32, s33, s34, s35, s36, s37, s38, s39, s40, s41, s42, s43, s44, s45, s46, s47, s48, s49, s50, s51, s52, s53, s54, s55, s56, s57, s58, s59, s60, s61, s62, s63, s64, s65, s66, s67, s68, s69, s70, s71, s72, s73, s74, s75, s76, s77, s78, s79, s80, s81, s82, s83, s84, s85, s86, s87, s88, s89, s90, s91, s92, s93, s94, s95, s96, s97, s98, s99, s100, s101, s102, s103, s104, s105, s106, s107, s108, s109, s110, s111, s112, s113, s114, s115, s116, s117, s118, s119, s120, s121, s122, s123, s124, s125, s126, s127, s128, s129, s130, s131, s132, s133, s134, s135, s136, s137, s138, s139, s140, s141, s142, s143, s144, s145, s146, s147, s148, s149, s150, s151, s152, s153, s154, s155, s156, s157, s158, s159, s160, s161, s162, s163, s164, s165, s166, s167, s168, s169, s170, s171, s172, s173, s174, s175, s176, s177, s178, s179, s180, s181, s182, s183, s184, s185, s186, s187, s188, s189, s190, s191, s192, s193, s194, s195, s196, s197, s198, s199, s200, s201, s202, s203, s204, s205, s206, s207, s208, s209, s210, s211, s212, s213, s214, s215, s216, s217, s218, s219, s220, s221, s222, s223, s224, s225, s226, s227, s228, s229, s230, s231, s232, s233, s234, s235, s236, s237, s238, s239, s240, s241, s242, s243, s244, s245, s246, s247, s248, s249, s250, s251, s252, s253, s254, s255, s256, s257, s258, s259, s260, s261, s262, s263, s264, s265, s266, s267, s268, s269, s270, s271, s272, s273, s274, s275, s276, s277, s278, s279, s280, s281, s282, s283, s284, s285, s286, s287, s288, s289, s290, s291, s292, s293, s294, s295, s296, s297, s298, s299, s300, s301, s302, s303, s304, s305, s306, s307, s308, s309, s310, s311, s312, s313, s314, s315, s316, s317, s318, s319, s320, s321, s322, s323, s324, s325, s326, s327, s328, s329, s330, s331, s332, s333, s334, s335, s336, s337, s338, s339, s340, s341, s342, s343, s344, s345, s346, s347, s348, s349], []⟩ w1 := by
  refine wp_mono (Q := Exit.then (fun a x => Q0 .normal a x) (fun _ _ _ => False)) ?_ (by intro e a x h; cases e <;> first | exact h | exact h.elim)
  conv => arg 2; whnf
  have E0 := E.at S0
  have HI := Lib.hid hInv
  have HE := Lib.hid (And.intro E (And.intro S0 L))
  have HH := Lib.hid (And.intro hh hns)
  have kh := holds_ok wn 1 day (some ⟨g, 0, none⟩) l.length l Af cf f w1 (heap_rd hg (cels_length l)) (by omega) hf.rd hce hh
  have HW1 := Lib.hid (And.intro E0 (And.intro S1 (And.intro hf (And.intro hcb (And.intro hg (And.intro kh hce))))))
  have HQ := Lib.hid (And.intro hqf hcg)
  have c0 := (cell_of_heap hcb 0).trans rfl
  have c1 := (cell_of_heap hcb 1).trans rfl
  have c2 := (cell_of_heap hcb 2).trans rfl
  have c3 := (cell_of_heap hcb 3).trans rfl
  have zb := heap_lt hcb
  clear E0 hInv E S0 L hh hns kh S1 hf hcb hg hce hqf hcg
  go_upto_region 38 with (go_at_call 72; refine HW1.out.2.2.2.2.2.1.mono ?_; rintro e w2 ⟨rfl, b2⟩)
  clear c0 c1 c2 c3 zb
  have S2 := HW1.out.2.1.below b2 HW1.out.1
  have f2 := HW1.out.2.2.1.keepS (Keep.of_below (S := []) b2) (by simp)
  have hcb2 := (b2.block _ (heap_lt HW1.out.2.2.2.1)).trans HW1.out.2.2.2.1
  have hg2 := (b2.block _ (heap_lt HW1.out.2.2.2.2.1)).trans HW1.out.2.2.2.2.1
  have apt : ∀ y, W0.heap.size ≤ y → y ∉ [c.ibm, c.ibr] := fun y hy hm => by have := HW1.out.1.nm.lt; have := HW1.out.1.nr.lt; simp at hm; omega
  have HX := Lib.hid (And.intro (show ∀ (j : Nat) v, (#[.int .i64 wn, .int .i64 1, .int .i64 day, .slice (some ⟨g, 0, none⟩) l.length l.length] : Array Value)[j]? = some v → w2.cell? ⟨cb, j, none⟩ = some v from fun j v hv => (cell_of_heap hcb2 j).trans hv) (apt cb HQ.out.2.1))
  have HG := Lib.hid (And.intro hg2 (apt g HQ.out.2.2))
  have HE2 := Lib.hid (And.intro (HW1.out.1.at S2) (And.intro HW1.out.2.2.2.2.2.2 (And.intro S2 (And.intro f2 (And.intro hcb2 apt)))))
  clear S2 f2 hcb2 hg2 apt b2
  refine wp_region_steps (σ := CgxS) (by kernel_rfl) (by kernel_rfl) (fun sg jx vx _ => CgxV c w2 l g wn day sg jx vx) (fun sg ly wx => CgxW c w2 l wn day sg ly wx) ⟨⟨0, 0, 0, 0⟩, ⟨0, 0, 0, 0⟩, 0, none, 0, [], 0⟩ ?_ ?_ ?_
  · exact ⟨(ChS.start HE2.out.1).keep (S := []) ((Keep.refl _ _).drew) (by simp) HE2.out.1, (fun h => by cases h), (fun h => by cases h), (fun h => by cases h), (fun h => by cases h), (fun h => by cases h), (fun h => by cases h)⟩
  · simp only [AllFrom, Nat.zero_add, Nat.reduceAdd]
    refine ⟨?_, ?_, ?_, ?_, ?_, ?_, ?_, ?_, ?_, ?_, ?_, ?_, ?_, ?_, ?_, trivial⟩
    · refine step_pure fun sg ly a wr hl hd hW hF => ?_
      have et23 := hF.old 23 (by kernel_rfl)
      simp [Act.eval] at et23
      have c0 := hW.st.kp.cell (HX.out.1 0 _ rfl) HX.out.2
      have c1 := hW.st.kp.cell (HX.out.1 1 _ rfl) HX.out.2
      have c2 := hW.st.kp.cell (HX.out.1 2 _ rfl) HX.out.2
      have c3 := hW.st.kp.cell (HX.out.1 3 _ rfl) HX.out.2
      exact ⟨hW.other _ (by decide), _, by go_simp, rfl⟩
    · refine step_pure fun sg ly a wr hl hd hW hF => ?_
      have et14 := hF.old 14 (by kernel_rfl)
      simp [Act.eval] at et14
      exact ⟨hW.other _ (by decide), _, by go_simp, rfl⟩
    · refine step_call fun sg ly a wr hl hd hW hF => ?_
      simp [Region.binds] at hd
      have et153 := hF.new 1 153 (by simp [hd]) rfl
      simp [CgxV, Act.eval] at et153
      have n5 := hF.notYet 2 5 hl (by kernel_rfl)
      have n8_5 := hF.notYet 2 5 hl (by kernel_rfl)
      have n8 := hF.notYet 5 8 n8_5 (by kernel_rfl)
      have n9_5 := hF.notYet 2 5 hl (by kernel_rfl)
      have n9_8 := hF.notYet 5 8 n9_5 (by kernel_rfl)
      have n9 := hF.notYet 8 9 n9_8 (by kernel_rfl)
      have n10_5 := hF.notYet 2 5 hl (by kernel_rfl)
      have n10_8 := hF.notYet 5 8 n10_5 (by kernel_rfl)
      have n10_9 := hF.notYet 8 9 n10_8 (by kernel_rfl)
      have n10 := hF.notYet 9 10 n10_9 (by kernel_rfl)
      refine ⟨68, #[.pointer (some ⟨c.rb, 0, none⟩)], by go_simp, ?_⟩
      refine (rate_any c.D c.ibr c.lbr c.rb wr hW.st.nr (HE2.out.1.at hW.st).rc HE2.out.1.p1.2.1.2.1).mono ?_
      rintro e w2' ⟨r, rfl, q1, q2, q3⟩
      refine ⟨_, { sg with u := r }, rfl, hW.rateU HE2.out.1 n8 q1 q2 q3, rfl, ?_⟩
      intro i u hi h
      have i0 : i ≠ 2 := by rintro rfl; rw [hl] at hi; cases hi
      have i5 : i ≠ 5 := by rintro rfl; rw [n5] at hi; cases hi
      have i8 : i ≠ 8 := by rintro rfl; rw [n8] at hi; cases hi
      have i9 : i ≠ 9 := by rintro rfl; rw [n9] at hi; cases hi
      have i10 : i ≠ 10 := by rintro rfl; rw [n10] at hi; cases hi
      unfold CgxV at h ⊢
      split at h <;> first | exact h | exact absurd rfl i0 | exact absurd rfl i5 | exact absurd rfl i8 | exact absurd rfl i9 | exact absurd rfl i10
    · refine step_pure fun sg ly a wr hl hd hW hF => ?_
      have et14 := hF.old 14 (by kernel_rfl)
      simp [Act.eval] at et14
      exact ⟨hW.other _ (by decide), _, by go_simp, rfl⟩
    · refine step_call fun sg ly a wr hl hd hW hF => ?_
      simp [Region.binds] at hd
      have et155 := hF.new 3 155 (by simp [hd]) rfl
      simp [CgxV, Act.eval] at et155
      have n5 := hF.notYet 4 5 hl (by kernel_rfl)
      have n8_5 := hF.notYet 4 5 hl (by kernel_rfl)
      have n8 := hF.notYet 5 8 n8_5 (by kernel_rfl)
      have n9_5 := hF.notYet 4 5 hl (by kernel_rfl)
      have n9_8 := hF.notYet 5 8 n9_5 (by kernel_rfl)
      have n9 := hF.notYet 8 9 n9_8 (by kernel_rfl)
      have n10_5 := hF.notYet 4 5 hl (by kernel_rfl)
      have n10_8 := hF.notYet 5 8 n10_5 (by kernel_rfl)
      have n10_9 := hF.notYet 8 9 n10_8 (by kernel_rfl)
      have n10 := hF.notYet 9 10 n10_9 (by kernel_rfl)
      refine ⟨68, #[.pointer (some ⟨c.rb, 0, none⟩)], by go_simp, ?_⟩
      refine (rate_any c.D c.ibr c.lbr c.rb wr hW.st.nr (HE2.out.1.at hW.st).rc HE2.out.1.p1.2.1.2.1).mono ?_
      rintro e w2' ⟨r, rfl, q1, q2, q3⟩
      refine ⟨_, { sg with d := r }, rfl, hW.rateD HE2.out.1 n8 q1 q2 q3, rfl, ?_⟩
      intro i u hi h
      have i0 : i ≠ 4 := by rintro rfl; rw [hl] at hi; cases hi
      have i5 : i ≠ 5 := by rintro rfl; rw [n5] at hi; cases hi
      have i8 : i ≠ 8 := by rintro rfl; rw [n8] at hi; cases hi
      have i9 : i ≠ 9 := by rintro rfl; rw [n9] at hi; cases hi
      have i10 : i ≠ 10 := by rintro rfl; rw [n10] at hi; cases hi
      unfold CgxV at h ⊢
      split at h <;> first | exact h | exact absurd rfl i0 | exact absurd rfl i5 | exact absurd rfl i8 | exact absurd rfl i9 | exact absurd rfl i10
    · refine step_pure fun sg ly a wr hl hd hW hF => ?_
      simp [Region.binds] at hd
      have et154 := hF.new 2 154 (by simp [hd]) rfl
      simp [CgxV, Act.eval] at et154
      have et156 := hF.new 4 156 (by simp [hd]) rfl
      simp [CgxV, Act.eval] at et156
      exact ⟨hW.other _ (by decide), _, by go_simp, rfl⟩
    · refine step_pure fun sg ly a wr hl hd hW hF => ?_
      have et13 := hF.old 13 (by kernel_rfl)
      simp [Act.eval] at et13
      have c0 := (HE2.out.1.at hW.st).rc
      exact ⟨hW.other _ (by decide), _, by go_simp, rfl⟩
    · refine step_call fun sg ly a wr hl hd hW hF => ?_
      simp [Region.binds] at hd
      have et158 := hF.new 6 158 (by simp [hd]) rfl
      simp [CgxV, Act.eval] at et158
      have n8 := hF.notYet 7 8 hl (by kernel_rfl)
      have n9_8 := hF.notYet 7 8 hl (by kernel_rfl)
      have n9 := hF.notYet 8 9 n9_8 (by kernel_rfl)
      have n10_8 := hF.notYet 7 8 hl (by kernel_rfl)
      have n10_9 := hF.notYet 8 9 n10_8 (by kernel_rfl)
      have n10 := hF.notYet 9 10 n10_9 (by kernel_rfl)
      have n13_8 := hF.notYet 7 8 hl (by kernel_rfl)
      have n13_9 := hF.notYet 8 9 n13_8 (by kernel_rfl)
      have n13_10 := hF.notYet 9 10 n13_9 (by kernel_rfl)
      have n13 := hF.notYet 10 13 n13_10 (by kernel_rfl)
      refine ⟨114, #[.int .i64 50, .pointer (some ⟨c.ibr, 0, none⟩), .pointer (some ⟨c.lbr, 0, none⟩)], by go_simp, ?_⟩
      refine (next_some 50 hW.st.nr (by decide)).mono ?_
      rintro e w2' ⟨r, rfl, q1, q2, q3, _⟩
      refine ⟨_, { sg with h := r }, rfl, hW.rateH HE2.out.1 n8 n13 q1 q2 q3, rfl, ?_⟩
      intro i u hi h
      have i0 : i ≠ 7 := by rintro rfl; rw [hl] at hi; cases hi
      have i8 : i ≠ 8 := by rintro rfl; rw [n8] at hi; cases hi
      have i9 : i ≠ 9 := by rintro rfl; rw [n9] at hi; cases hi
      have i10 : i ≠ 10 := by rintro rfl; rw [n10] at hi; cases hi
      have i13 : i ≠ 13 := by rintro rfl; rw [n13] at hi; cases hi
      unfold CgxV at h ⊢
      split at h <;> first | exact h | exact absurd rfl i0 | exact absurd rfl i8 | exact absurd rfl i9 | exact absurd rfl i10 | exact absurd rfl i13
    · refine step_call fun sg ly a wr hl hd hW hF => ?_
      simp [Region.binds] at hd
      have et152 := hF.new 0 152 (by simp [hd]) rfl
      simp [CgxV, Act.eval] at et152
      have et157 := hF.new 5 157 (by simp [hd]) rfl
      simp [CgxV, Act.eval] at et157
      have et159 := hF.new 7 159 (by simp [hd]) rfl
      simp [CgxV, Act.eval] at et159
      have y7 : ly 7 = true := by simp [hd]
      have y2 := hF.before 2 5 (by simp [hd]) (by kernel_rfl)
      have y4 := hF.before 4 5 (by simp [hd]) (by kernel_rfl)
      have n9 := hF.notYet 8 9 hl (by kernel_rfl)
      have n10_9 := hF.notYet 8 9 hl (by kernel_rfl)
      have n10 := hF.notYet 9 10 n10_9 (by kernel_rfl)
      have n13_9 := hF.notYet 8 9 hl (by kernel_rfl)
      have n13_10 := hF.notYet 9 10 n13_9 (by kernel_rfl)
      have n13 := hF.notYet 10 13 n13_10 (by kernel_rfl)
      refine ⟨73, #[.agg #[.int .i64 wn, .int .i64 1, .int .i64 day, .slice (some ⟨g, 0, none⟩) l.length l.length], .agg (rtA sg.u sg.d), .int .i64 sg.h], by go_simp, ?_⟩
      have hr := hW.rh y7
      refine (age_ok wn 1 day (some ⟨g, 0, none⟩) l.length l sg.u sg.d sg.h wr (heap_rd ((hW.st.kp.block _ (heap_lt HG.out.1) HG.out.2).trans HG.out.1) (cels_length l)) (by omega) HE2.out.2.1 (rt_of (hW.ru y2) (hW.rd y4)) (by omega) (by omega)).mono ?_
      rintro e w2' ⟨A', c', q, rfl, o1, o2, o3⟩
      refine ⟨_, { sg with A := A', c := c', q := q }, rfl, hW.aged HE2.out.1 n13 o1 o2 o3, rfl, ?_⟩
      intro i u hi h
      have i0 : i ≠ 8 := by rintro rfl; rw [hl] at hi; cases hi
      have i9 : i ≠ 9 := by rintro rfl; rw [n9] at hi; cases hi
      have i10 : i ≠ 10 := by rintro rfl; rw [n10] at hi; cases hi
      unfold CgxV at h ⊢
      split at h <;> first | exact h | exact absurd rfl i0 | exact absurd rfl i9 | exact absurd rfl i10
    · refine step_pure fun sg ly a wr hl hd hW hF => ?_
      simp [Region.binds] at hd
      have et160 := hF.new 8 160 (by simp [hd]) rfl
      simp [CgxV, Act.eval] at et160
      exact ⟨hW.other _ (by decide), _, by go_simp, rfl⟩
    · refine step_pure fun sg ly a wr hl hd hW hF => ?_
      simp [Region.binds] at hd
      have et151 := hF.new 9 151 (by simp [hd]) rfl
      simp [CgxV, Act.eval] at et151
      exact ⟨hW.other _ (by decide), _, by go_simp, rfl⟩
    · refine step_pure fun sg ly a wr hl hd hW hF => ?_
      simp [Region.binds] at hd
      have et151 := hF.new 9 151 (by simp [hd]) rfl
      simp [CgxV, Act.eval] at et151
      exact ⟨hW.other _ (by decide), _, by go_simp, rfl⟩
    · refine step_run fun sg ly a wr hl hd hW hF => ?_
      have n13 := hF.notYet 12 13 hl (by kernel_rfl)
      refine ⟨_, wr.alloc (.cells #[.int .i64 0, .int .i64 0, .int .i64 0, .slice none 0 0] 114), { sg with b := wr.heap.size }, by go_simp, hW.made HE2.out.1 n13, rfl, ?_⟩
      intro i u hi h
      have i0 : i ≠ 12 := by rintro rfl; rw [hl] at hi; cases hi
      unfold CgxV at h ⊢
      split at h <;> first | exact h | exact absurd rfl i0
    · refine step_store rfl fun sg ly a wr hl hd hW hF => ?_
      simp [Region.binds] at hd
      have et30 := hF.new 12 30 (by simp [hd]) rfl
      simp [CgxV, Act.eval] at et30
      have et161 := hF.new 10 161 (by simp [hd]) rfl
      simp [CgxV, Act.eval] at et161
      have y8_9 := hF.before 9 10 (by simp [hd]) (by kernel_rfl)
      have y8 := hF.before 8 9 y8_9 (by kernel_rfl)
      have y12 : ly 12 = true := by simp [hd]
      have hq := (hW.ob y12).2
      rw [hl] at hq
      have c0 := (cell_of_heap hq 0).trans rfl
      have f0 := frozen_of_heap hq 0
      have c1 := (cell_of_heap hq 1).trans rfl
      have f1 := frozen_of_heap hq 1
      have c2 := (cell_of_heap hq 2).trans rfl
      have f2 := frozen_of_heap hq 2
      have c3 := (cell_of_heap hq 3).trans rfl
      have f3 := frozen_of_heap hq 3
      have zq := heap_lt hq
      exact ⟨_, sg, .skip, by go_simp, .inl rfl, hW.store HE2.out.1 y8 y12 hl, fun _ _ _ h => h⟩
    · refine step_pure fun sg ly a wr hl hd hW hF => ?_
      simp [Region.binds] at hd
      have et162 := hF.new 11 162 (by simp [hd]) rfl
      simp [CgxV, Act.eval] at et162
      exact ⟨hW.other _ (by decide), _, by go_simp, rfl⟩
  intro sg a5 w5 hWW hF
  have e30 := hF.new 12 30 (by decide) rfl
  have e31 := hF.new 14 31 (by decide) rfl
  obtain ⟨f5, hf5, rfl⟩ := hF.lit
  rw [← hf5] at e30 e31
  simp only [CgxV] at e30 e31
  have hob := (hWW.ob rfl).2
  simp only [List.length_cons, List.length_nil, Nat.reduceAdd, Nat.reduceLT, decide_true, if_true] at hob
  have hh50 := hWW.rh rfl
  have hrt := rt_of (hWW.ru rfl) (hWW.rd rfl)
  have S5 := HE2.out.2.2.1.trans hWW.st
  have hcb5 := (hWW.st.kp.block _ (heap_lt HE2.out.2.2.2.2.1) (HE2.out.2.2.2.2.2 _ HQ.out.2.1)).trans HE2.out.2.2.2.2.1
  have hg5 := (hWW.st.kp.block _ (heap_lt HG.out.1) HG.out.2).trans HG.out.1
  have f5' := HE2.out.2.2.2.1.keepS hWW.st.kp (fun y hy => HE2.out.2.2.2.2.2 _ (HQ.out.1 y hy))
  have ls0 := HE2.out.2.2.1.kp.size
  have ce2 : chartE wn 1 (day + sg.h) (l.map fun x => ageCel x sg.u sg.d sg.h) = 0 := chart_aged HE2.out.2.1 hrt (by omega) (by
    have hz : sizeE wn 1 day = 0 := by
      have := HE2.out.2.1
      unfold chartE at this
      split at this
      · rename_i h1; exact absurd this h1
      · rename_i h1; simpa using h1
    unfold sizeE at hz ⊢
    split at hz
    · rename_i h1
      rw [if_pos]
      simp only [sizeOk, within, Bool.and_eq_true, decide_eq_true_eq] at h1 ⊢
      omega
    · cases hz)
  obtain ⟨d1, d2⟩ := dist_ok HE2.out.2.1 hn0 HH.out.2
  obtain ⟨d3, d4⟩ := dist_ok (ns := c.ns) ce2 hn0 (by rw [List.length_map]; exact HH.out.2)
  have hlaw := day_law (ns := c.ns) (chart_ok HE2.out.2.1) HH.out.1 HH.out.2 hrt (show 0 ≤ sg.h ∧ sg.h ≤ 10000 by omega)
  have E5 := HW1.out.1.at S5
  have kd1 := District_any wn 1 day (some ⟨g, 0, none⟩) l.length l c.Ad c.cd c.ns w5 (heap_rd hg5 (cels_length l)) (by omega) E5.rd (by omega)
  have kd2 := fun X (hX : Below w5.heap.size w5 X) => District_any wn 1 (day + sg.h) sg.A sg.c (l.map fun x => ageCel x sg.u sg.d sg.h) c.Ad c.cd c.ns X (by rw [List.length_map]; exact (hWW.ag rfl).1.rd.below hX) (by rw [List.length_map]; omega) (E5.rd.below hX) (by omega)
  unfold DistPost at kd1 kd2
  rw [d1, d2] at kd1
  rw [d3, d4] at kd2
  simp only [List.length_map] at kd2
  obtain ⟨sa1, hsa1⟩ : ∃ y, y = distN celLo l c.ns := ⟨_, rfl⟩
  obtain ⟨sa2, hsa2⟩ : ∃ y, y = distN celHi l c.ns := ⟨_, rfl⟩
  obtain ⟨sb1, hsb1⟩ : ∃ y, y = distN celLo (l.map fun x => ageCel x sg.u sg.d sg.h) c.ns := ⟨_, rfl⟩
  obtain ⟨sb2, hsb2⟩ : ∃ y, y = distN celHi (l.map fun x => ageCel x sg.u sg.d sg.h) c.ns := ⟨_, rfl⟩
  rw [← hsa1, ← hsa2] at kd1 hlaw
  rw [← hsb1, ← hsb2] at kd2 hlaw
  have HK := Lib.hid (And.intro kd1 (And.intro kd2 (And.intro hlaw (And.intro S5 (And.intro f5' ls0)))))
  have HOB := Lib.hid hob
  have q0 := (cell_of_heap hcb5 0).trans rfl
  have q1 := (cell_of_heap hcb5 1).trans rfl
  have q2 := (cell_of_heap hcb5 2).trans rfl
  have q3 := (cell_of_heap hcb5 3).trans rfl
  have zq := heap_lt hcb5
  clear hf5 hF hWW hob hh50 hrt S5 hcb5 hg5 f5' ls0 ce2 d1 d2 d3 d4 hlaw E5 kd1 kd2 hsa1 hsa2 hsb1 hsb2
  simp only [List.filterMap, List.foldl, List.setIfInBounds_toArray, List.set_cons_succ, List.set_cons_zero, e30, e31]
  clear e30 e31
  go_wp2_with fail
  refine HK.out.1.mono ?_
  rintro e w6 ⟨rfl, b6⟩
  clear q0 q1 q2 q3 zq
  have b56 : Below w5.heap.size w5 (w6.alloc (.cells #[.int .i64 sa1, .int .i64 sa2] 42)) := b6.alloc b6.size _
  go_upto_region 40 with fail
  obtain ⟨W6, hW6⟩ : ∃ W, W = w6.alloc (.cells #[.int .i64 sa1, .int .i64 sa2] 42) := ⟨_, rfl⟩
  obtain ⟨sa, hsa⟩ : ∃ y, y = w6.heap.size := ⟨_, rfl⟩
  have ha6 : W6.heap[sa]? = some (.cells #[.int .i64 sa1, .int .i64 sa2] 42 (0, 0)) := by rw [hW6, hsa]; exact heap_alloc_new _ _
  rw [← hW6] at b56
  have szz : W0.heap.size ≤ w5.heap.size := HK.out.2.2.2.1.kp.size
  have ssa : W0.heap.size ≤ sa := by have := b6.size; omega
  have ho6 := (b56.block _ (heap_lt HOB.out)).trans HOB.out
  have HA6 := Lib.hid (And.intro b56 (And.intro ha6 ssa))
  rw [← hW6, ← hsa]
  have o0 := (cell_of_heap ho6 0).trans rfl
  have o1 := (cell_of_heap ho6 1).trans rfl
  have o2 := (cell_of_heap ho6 2).trans rfl
  have o3 := (cell_of_heap ho6 3).trans rfl
  have zo := heap_lt ho6
  clear hW6 hsa b6 b56 ha6 ssa szz ho6
  go_wp2_with fail
  refine (HK.out.2.1 _ HA6.out.1).mono ?_
  rintro e w7 ⟨rfl, b7⟩
  clear o0 o1 o2 o3 zo
  go_upto_region 41 with fail
  obtain ⟨W7, hW7⟩ : ∃ W, W = w7.alloc (.cells #[.int .i64 sb1, .int .i64 sb2] 42) := ⟨_, rfl⟩
  obtain ⟨sb, hsb⟩ : ∃ y, y = w7.heap.size := ⟨_, rfl⟩
  have hb7 : W7.heap[sb]? = some (.cells #[.int .i64 sb1, .int .i64 sb2] 42 (0, 0)) := by rw [hW7, hsb]; exact heap_alloc_new _ _
  have b67 : Below W6.heap.size W6 W7 := by rw [hW7]; exact b7.alloc b7.size _
  have ha7 := (b67.block _ (heap_lt HA6.out.2.1)).trans HA6.out.2.1
  have b57 : Below w5.heap.size w5 W7 := HA6.out.1.trans (b67.mono HA6.out.1.size)
  have ssb : W0.heap.size ≤ sb := by have := b7.size; have := HA6.out.1.size; have := HK.out.2.2.2.1.kp.size; omega
  rw [← hW7, ← hsb]
  have HA7 := Lib.hid (And.intro b57 (And.intro ha7 (And.intro hb7 ssb)))
  have x0 := (cell_of_heap ha7 0).trans rfl
  have x1 := (cell_of_heap ha7 1).trans rfl
  have y0 := (cell_of_heap hb7 0).trans rfl
  have y1 := (cell_of_heap hb7 1).trans rfl
  have zx := heap_lt ha7
  have zy := heap_lt hb7
  have g1 : decide (sa1 < sb1) = false := by have := HK.out.2.2.1; simp; omega
  have g2 : decide (sb2 < sa2) = false := by have := HK.out.2.2.1; simp; omega
  clear hW7 hsb hb7 b67 ha7 b57 ssb b7
  go_upto_region 43 with fail
  go_cut [36] from 36 to 36 (fun x wx => x = .int .i64 0 ∧ W7 = wx)
  case first =>
    go_wp2_with fail
    go_meet
    exact ⟨rfl, rfl⟩
  case rest =>
  obtain ⟨rfl, rfl⟩ := hcut
  clear x0 x1 y0 y1 zx zy g1 g2
  have S7 := HK.out.2.2.2.1.below HA7.out.1 HW1.out.1
  have f7 := HK.out.2.2.2.2.1.keepS (Keep.of_below (S := []) HA7.out.1) (by simp)
  have HS7 := Lib.hid (And.intro S7 f7)
  clear S7 f7
  apply_assumption
  refine charts_b HE.out.1 HE.out.2.1 HS7.out.1 HE.out.2.2 hn10 HS7.out.2.rd (fun y hy => ?_) (by rw [HH.out.1.1]; exact HH.out.2) hn5 HA7.out.2.1 HA7.out.2.2.1 ⟨HA6.out.2.2, HA7.out.2.2.2⟩ HK.out.2.2.1 ?_
  · obtain ⟨j, hj, rfl⟩ := List.getElem_of_mem hy
    exact (HH.out.1.2 j hj (by rw [← HH.out.1.1]; exact hj)).2
  · intros
    exact HI.out _ _ _ _ _ _ _ _ _ _ _ _ _ _ _ _ _ _ _ _ _ _ _ _ _ _ _ _ _ _ _ _ _ _ _ _ _ _ _ _ _ _ _ _ _ _ _ _ _ _ _ _ _ _ _ _ _ _ _ _ _ _ _ _ _ _ _ _ _ _ _ _ _ _ _ _ _ _ _ _ _ _ _ _ _ _ _ _ _ _ _ _ _ _ _ _ _ _ _ _ _ _ _ _ _ _ _ _ _ _ _ _ _ _ _ _ _ _ _ _ _ _ _ (by assumption)
end Go.Proofs.Ytfmhlnfcbbpfeaa
