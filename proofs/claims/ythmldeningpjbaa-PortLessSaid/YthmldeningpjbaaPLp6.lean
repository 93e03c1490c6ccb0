import Derived.Test.YthmldeningpjbaaPLp4
import Derived.Test.YthmldeningpjbaaPLp5
set_option linter.unusedVariables false
set_option linter.unusedSimpArgs false
set_option maxRecDepth 100000
set_option maxHeartbeats 40000000
namespace Go.Proofs.Ythmldeningpjbaa
open Go Go.RowKit Sp Pt
structure WC where
  wb : Nat
  pb : Nat
  lb : Nat
  gb : Nat
  ub : Nat
  c1 : Nat
  c2 : Nat
  D : Nat
  Ac : Option Addr
  Ab : Option Addr
  Al : Option Addr
  As : Option Addr
  cc : Nat
  cb : Nat
  cl : Nat
  cs : Nat
  p : Prt
  l : Pln
abbrev wkV (c : WC) (v u : Value) : Array Value := #[.pointer (some ⟨c.pb, 0, none⟩), .pointer (some ⟨c.lb, 0, none⟩), v, u]
abbrev brV (c : WC) : Value := .slice (some ⟨c.gb, 0, none⟩) c.p.chs.length c.c1
abbrev buV (c : WC) : Value := .slice (some ⟨c.ub, 0, none⟩) c.p.bts.length c.c2
structure WcE (c : WC) (W : World) (v u : Value) : Prop where
  hw : W.heap[c.wb]? = some (.cells (wkV c v u) 149 (0, 0))
  hp : W.heap[c.pb]? = some (.cells (prtV c.Ac c.cc c.Ab c.cb c.p) 26 (0, 0))
  hl : W.heap[c.lb]? = some (.cells (plnV c.Al c.cl c.As c.cs c.l) 31 (0, 0))
  PB : PrtB c.D W c.Ac c.cc c.Ab c.cb c.p
  LB : PlnB c.D W c.Al c.cl c.As c.cs c.l
  hD : c.D ≤ W.heap.size
structure WcN (c : WC) : Prop where
  ne : c.gb ≠ c.ub
  g : c.gb ≠ c.wb ∧ c.gb ≠ c.pb ∧ c.gb ≠ c.lb ∧ c.D ≤ c.gb
  u : c.ub ≠ c.wb ∧ c.ub ≠ c.pb ∧ c.ub ≠ c.lb ∧ c.D ≤ c.ub
structure WkS (c : WC) (W w : World) (s : Stt) : Prop where
  kp : Keep [c.gb, c.ub] W w
  br : OwnS w 3 1 (some ⟨c.gb, 0, none⟩) c.p.chs.length c.c1 (ints s.brash) [c.gb]
  bu : OwnS w 4 1 (some ⟨c.ub, 0, none⟩) c.p.bts.length c.c2 (bools s.busy) [c.ub]
section
variable {c : WC} {W w w' : World} {s : Stt} {v u : Value}
theorem WcE.keep (h : WcE c W v u) {S : List Nat} (hk : Keep S W w) (hS : ∀ x ∈ S, x ≠ c.wb ∧ x ≠ c.pb ∧ x ≠ c.lb ∧ c.D ≤ x) : WcE c w v u := by
  have hd : Below c.D W w := hk.below h.hD (fun x hx => (hS x hx).2.2.2);exact ⟨(hk.block _ (hL_ h.hw) (fun hm => (hS _ hm).1 rfl)).trans h.hw, (hk.block _ (hL_ h.hp) (fun hm => (hS _ hm).2.1 rfl)).trans h.hp, (hk.block _ (hL_ h.hl) (fun hm => (hS _ hm).2.2.1 rfl)).trans h.hl, h.PB.below hd, h.LB.below hd, Nat.le_trans h.hD hk.size⟩
theorem WcE.below (h : WcE c W v u) (hb : Below W.heap.size W w) : WcE c w v u := h.keep (S := []) (Keep.of_below hb) (by simp)
theorem WcE.at (h : WcE c W v u) (n : WcN c) (S : WkS c W w s) : WcE c w v u := h.keep S.kp (by simp; exact ⟨n.g, n.u⟩)
theorem WcE.cells (h : WcE c W v u) : W.cell? ⟨c.wb, 0, none⟩ = some (.pointer (some ⟨c.pb, 0, none⟩)) ∧ W.cell? ⟨c.wb, 1, none⟩ = some (.pointer (some ⟨c.lb, 0, none⟩)) ∧ W.cell? ⟨c.wb, 2, none⟩ = some v ∧ W.cell? ⟨c.wb, 3, none⟩ = some u ∧
    W.cell? ⟨c.pb, 0, none⟩ = some (.slice c.Ac c.p.chs.length c.cc) ∧ W.cell? ⟨c.pb, 1, none⟩ = some (.slice c.Ab c.p.bts.length c.cb) ∧
    W.cell? ⟨c.lb, 0, none⟩ = some (.int .i64 c.l.hours) ∧ W.cell? ⟨c.lb, 1, none⟩ = some (.slice c.Al c.l.calls.length c.cl) ∧ W.cell? ⟨c.lb, 2, none⟩ = some (.slice c.As c.l.swps.length c.cs) ∧
    c.wb < W.heap.size ∧ c.pb < W.heap.size ∧ c.lb < W.heap.size :=
  ⟨(cOH h.hw 0).trans rfl, (cOH h.hw 1).trans rfl, (cOH h.hw 2).trans rfl, (cOH h.hw 3).trans rfl, (cOH h.hp 0).trans rfl, (cOH h.hp 1).trans rfl, (cOH h.hl 0).trans rfl, (cOH h.hl 1).trans rfl, (cOH h.hl 2).trans rfl, hL_ h.hw, hL_ h.hp, hL_ h.hl⟩
theorem WkS.start (h : WkS c W w s) : WkS c w w s := ⟨Keep.refl _ _, h.br, h.bu⟩
theorem WkS.after {s' : Stt} (h : WkS c W w s) (h' : WkS c w w' s') : WkS c W w' s' := ⟨h.kp.trans h'.kp (by simp), h'.br, h'.bu⟩
theorem WkS.below (h : WkS c W w s) (hb : Below w.heap.size w w') : WkS c W w' s :=
  ⟨h.kp.trans (Keep.of_below (S := []) hb) (by simp), h.br.keepS (Keep.of_below (S := []) hb) (by simp), h.bu.keepS (Keep.of_below (S := []) hb) (by simp)⟩
theorem WkS.alloc (h : WkS c W w s) (o : Obj) : WkS c W (w.alloc o) s := h.below ((Below.refl _ _).alloc (Nat.le_refl _) _)
theorem WkS.len (h : WkS c W w s) : s.brash.length = c.p.chs.length ∧ s.busy.length = c.p.bts.length := by
  have h1 := h.br.1; have h2 := h.bu.1;simp [ints] at h1;simp [bools] at h2;exact ⟨h1, h2⟩
theorem OwnS.one {e : TypeId} {A : Option Addr} {n c : Nat} {xs : List Value} {q : List Nat} {g : Nat} (h : OwnS w e 1 (some ⟨g, 0, none⟩) n c xs q) : g < w.heap.size ∧ (∀ j u, xs[j]? = some u → w.cell? ⟨g, j, none⟩ = some u) ∧ ∀ j, w.frozen? ⟨g, j, none⟩ = false := by
  rcases h.2 with ⟨h0, _⟩ | ⟨g', cur, h1, h2, h3, h4, h5, h6, h7⟩
  · cases h0
  · injection h1 with h1
    injection h1 with h1 _ _
    subst h1;exact ⟨hL_ h3, fun j u hu => (cOH h3 _).trans (h7 j u hu), fun j => fOH h3 j⟩
theorem OwnS.set1 {e : TypeId} {n c : Nat} {xs : List Value} {q : List Nat} {g : Nat} (h : OwnS w e 1 (some ⟨g, 0, none⟩) n c xs q) (k : Nat) (hk : k < n) (u : Value) : OwnS (w.setCell ⟨g, k, none⟩ u) e 1 (some ⟨g, 0, none⟩) n c (xs.set k u) q := by
  refine ⟨by rw [List.length_set, h.1], .inr ?_⟩;rcases h.2 with ⟨h0, _⟩ | ⟨g', cur, h1, h2, h3, h4, h5, h6, h7⟩
  · cases h0
  · injection h1 with h1
    injection h1 with h1 _ _
    subst h1;refine ⟨g, cur.setIfInBounds k u, rfl, h2, hS_ h3 _ _, h4, h5, by simpa using h6, fun j v hv => ?_⟩;rw [List.getElem?_set] at hv;by_cases e : k = j
    · subst e;rw [if_pos rfl] at hv;split at hv
      · injection hv with hv
        subst hv;rw [Array.getElem?_setIfInBounds_self_of_lt (by omega)]
      · cases hv
    · rw [if_neg e] at hv;rw [Array.getElem?_setIfInBounds_ne e];exact h7 j v hv
theorem WkS.setBr (h : WkS c W w s) (n : WcN c) {k : Nat} (x : Int) (hk : k < c.p.chs.length) : WkS c W (w.setCell ⟨c.gb, k, none⟩ (.int .i64 x)).drew ⟨setI s.brash k x, s.busy⟩ := by
  refine ⟨(h.kp.setCell (.inl (by simp)) _).drew, ?_, ?_⟩
  · have := h.br.set1 k hk (.int .i64 x);rw [show (ints s.brash).set k (.int .i64 x) = ints (setI s.brash k x) from by simp [ints, setI, List.map_set]] at this;exact this.drewN 1
  · exact (h.bu.setCell (p := ⟨c.gb, k, none⟩) (by simpa using n.ne) _).drewN 1
theorem WkS.setBu (h : WkS c W w s) (n : WcN c) {k : Nat} (x : Bool) (hk : k < c.p.bts.length) : WkS c W (w.setCell ⟨c.ub, k, none⟩ (.bool x)).drew ⟨s.brash, s.busy.set k x⟩ := by
  refine ⟨(h.kp.setCell (.inl (by simp)) _).drew, ?_, ?_⟩
  · exact (h.br.setCell (p := ⟨c.ub, k, none⟩) (by simpa using n.ne.symm) _).drewN 1
  · have := h.bu.set1 k hk (.bool x);rw [show (bools s.busy).set k (.bool x) = bools (s.busy.set k x) from by simp [bools, List.map_set]] at this;exact this.drewN 1
theorem WkS.brAt (h : WkS c W w s) {k : Nat} (hk : k < c.p.chs.length) : w.cell? ⟨c.gb, k, none⟩ = some (.int .i64 (getI s.brash k)) := by
  have := (h.br.one (A := none)).2.1 k _ (iG_ (by rw [h.len.1]; exact hk));rw [this]; simp [getI]
theorem WkS.buAt (h : WkS c W w s) {k : Nat} (hk : k < c.p.bts.length) : w.cell? ⟨c.ub, k, none⟩ = some (.bool (s.busy.getD k false)) := (h.bu.one (A := none)).2.1 k _ (bools_get (by rw [h.len.2]; exact hk))
theorem chAt {W : World} {D : Nat} {p : Prt} {Ac Ab : Option Addr} {cc cb : Nat} (h : PrtB D W Ac cc Ab cb p) {k : Nat} (hk : k < p.chs.length) : ∃ b off, Ac = some ⟨b, off, none⟩ ∧ b < D ∧ W.cell? ⟨b, off + k * 3, none⟩ = some (.int .i64 (ch p k).grow) ∧ W.cell? ⟨b, off + k * 3 + 1, none⟩ = some (.int .i64 (ch p k).frost) ∧ W.cell? ⟨b, off + k * 3 + 2, none⟩ = some (.int .i64 (ch p k).clear) := by
  obtain ⟨b, off, e, hb, hc⟩ := h.chs.2 (by omega);obtain ⟨g0, g1, g2⟩ := chcs_get hk;have e2 : p.chs[k] = ch p k := by simp [ch, hk]
  rw [e2] at g0 g1 g2;exact ⟨b, off, e, hb, hc _ _ g0, hc _ _ g1, hc _ _ g2⟩
end
def brR (B : Int) (b : List Int) : Prop := ∀ c, -B ≤ getI b c ∧ getI b c ≤ B
def SwV (W0 : World) (wb xb gb pb bc oc n c1 cc k : Nat) (x tg cr z : Int) : Nat → Value → Prop
  | 0, v => v = .pointer (some ⟨wb, 0, none⟩)
  | 1, v => v = .pointer (some ⟨wb, 0, none⟩)
  | 2, v => v = .pointer (some ⟨wb, 2, none⟩)
  | 3, v => v = .slice (some ⟨gb, 0, none⟩) n c1
  | 4, v => v = .pointer (some ⟨xb, 1, none⟩)
  | 5, v => v = .int .i64 k
  | 6, v => v = .pointer (some ⟨wb, 0, none⟩)
  | 7, v => v = .pointer (some ⟨wb, 0, none⟩)
  | 8, v => v = .pointer (some ⟨wb, 2, none⟩)
  | 9, v => v = .slice (some ⟨gb, 0, none⟩) n c1
  | 10, v => v = .pointer (some ⟨xb, 1, none⟩)
  | 11, v => v = .int .i64 k
  | 12, v => v = .pointer (some ⟨gb, k, none⟩)
  | 13, v => v = .int .i64 x
  | 14, v => v = .pointer (some ⟨xb, 2, none⟩)
  | 15, v => v = .int .i64 tg
  | 16, v => v = .pointer (some ⟨wb, 0, none⟩)
  | 17, v => v = .pointer (some ⟨wb, 0, none⟩)
  | 18, v => v = .pointer (some ⟨wb, 0, none⟩)
  | 19, v => v = .pointer (some ⟨pb, 0, none⟩)
  | 20, v => v = .pointer (some ⟨pb, 0, none⟩)
  | 21, v => v = .pointer (some ⟨pb, 0, none⟩)
  | 22, v => v = .slice (some ⟨bc, oc, none⟩) n cc
  | 23, v => v = .pointer (some ⟨xb, 1, none⟩)
  | 24, v => v = .int .i64 k
  | 25, v => v = .pointer (some ⟨bc, oc + k * 3, none⟩)
  | 26, v => v = .pointer (some ⟨bc, oc + k * 3 + 2, none⟩)
  | 27, v => v = .int .i64 cr
  | 28, v => v = .int .i64 (tg * cr)
  | 29, v => v = .int .i64 (x - (tg * cr))
  | 30, v => v = .int .i64 z
  | 31, v => v = .pointer (some ⟨gb, k, none⟩)
  | _, _ => True
def SwW (W0 : World) (wb xb gb pb bc oc n c1 cc k : Nat) (x tg cr z : Int) (l : Nat → Bool) (w : World) : Prop := if l 32 then w = (W0.setCell ⟨gb, k, none⟩ (.int .i64 z)).drew else w = W0.drew
theorem swR {c : WC} {W0 wr : World} {L i : Nat} {h : Int} {s : Stt} (E : WcE c W0 (brV c) (buV c)) (N : WcN c) (S : WkS c W0 wr s) (hL : c.l.swps.length = L) (hi : i < L) (hL2 : L ≤ 1000) (hc : 0 ≤ (c.l.swps.getD i default).channel ∧ (c.l.swps.getD i default).channel < c.p.chs.length ∧ 0 ≤ (c.l.swps.getD i default).tugs ∧ (c.l.swps.getD i default).tugs ≤ 20) (hcl : ∀ x ∈ c.p.chs, 0 ≤ x.clear ∧ x.clear ≤ 200) (hcn : c.p.chs.length ≤ 1000) (hbr : brR 100000000000 s.brash) {s2 s3 s4 s5 s6 s7 s8 s9 s10 s11 s15 s16 s17 s18 s19 s20 s21 s22 s23 s24 s25 s26 s27 s28 s29 s30 s31 s32 s33 s34 s35 s36 s37 s38 s39 s40 s41 s42 s43 s44 s45 s46 s47 s48 s49 s50 s51 s52 s53 s54 : Value} {Q0 : Exit → Act → World → Prop} {Inv : Act → World → Prop}
    (hInv : ∀ (t5 t15 t16 t17 t18 t19 t20 t21 t22 t23 t24 t25 t26 t27 t28 t29 t30 t31 t32 t33 t34 t35 t36 t37 t38 t39 t40 t41 t42 t43 t44 t45 t46 t47 t48 t49 t50 t51 t52 t53 t54 : Value)  (w' : World), WkS c W0 w' ⟨swp1 c.p h s.brash (c.l.swps.getD i default), s.busy⟩ → Inv ⟨#[.pointer (some ⟨c.wb, 0, none⟩), .int .i64 h, s2, s3, s4, t5, s6, s7, s8, s9, s10, s11, .slice c.As L c.cs, .int .i64 L, .int .i64 ((i + 1 : Nat) : Int), t15, t16, t17, t18, t19, t20, t21, t22, t23, t24, t25, t26, t27, t28, t29, t30, t31, t32, t33, t34, t35, t36, t37, t38, t39, t40, t41, t42, t43, t44, t45, t46, t47, t48, t49, t50, t51, t52, t53, t54], []⟩ w') :
    Code.wp Try.prog (loopBody Try.f123 0) (Exit.then Inv Q0) ⟨#[.pointer (some ⟨c.wb, 0, none⟩), .int .i64 h, s2, s3, s4, s5, s6, s7, s8, s9, s10, s11, .slice c.As L c.cs, .int .i64 L, .int .i64 i, s15, s16, s17, s18, s19, s20, s21, s22, s23, s24, s25, s26, s27, s28, s29, s30, s31, s32, s33, s34, s35, s36, s37, s38, s39, s40, s41, s42, s43, s44, s45, s46, s47, s48, s49, s50, s51, s52, s53, s54], []⟩ wr := by
  conv => arg 2; whnf
  have hg : c.l.swps[i]'(by omega) = c.l.swps.getD i default := by simp [List.getD_eq_getElem?_getD, List.getElem?_eq_getElem (show i < c.l.swps.length by omega)]
  generalize c.l.swps.getD i default = x0 at *;have Er := E.at N S;obtain ⟨bs, os, eAs, hbs, hcc⟩ := Er.LB.swps.2 (by omega);obtain ⟨g0, g1, g2⟩ := swcs_get (l := c.l.swps) (k := i) (by omega);rw [hg] at g0 g1 g2;obtain ⟨ho, cn, tg⟩ := x0;simp only at g0 g1 g2 hc;obtain ⟨hc0, hc1, tg0, tg1⟩ := hc;obtain ⟨k, rfl⟩ := Int.eq_ofNat_of_zero_le hc0;have hk : k < c.p.chs.length := by omega
  have d0 := hcc _ _ g0;have d1 : wr.cell? ⟨bs, os + i * 3 + 1, none⟩ = _ := hcc _ _ g1;have d2 : wr.cell? ⟨bs, os + i * 3 + 2, none⟩ = _ := hcc _ _ g2;have zs := World.block_lt_of_cell? _ _ d0;obtain ⟨W2, hW2⟩ : ∃ W2, W2 = wr.alloc (.cells #[.int .i64 ho, .int .i64 k, .int .i64 tg] 126) := ⟨_, rfl⟩;obtain ⟨xb, hxb⟩ : ∃ xb, xb = wr.heap.size := ⟨_, rfl⟩;have hxh : W2.heap[xb]? = some (.cells #[.int .i64 ho, .int .i64 k, .int .i64 tg] 126 (0, 0)) := by rw [hW2, hxb]; exact heap_alloc_new _ _
  have S2 : WkS c W0 W2 s := by rw [hW2]; exact S.alloc _
  have E2 := E.at N S2;obtain ⟨bc, oc, eAc, hbc, h0, h1, q5⟩ := chAt E2.PB hk;obtain ⟨q1, _, q2, _, q3, _, _, _, _, z1, z2, _⟩ := E2.cells;have q4 := S2.brAt hk;have q6 := (S2.br.one (A := none)).2.2 k;have z3 := (S2.br.one (A := none)).1;have x0' : W2.cell? ⟨xb, 0, none⟩ = some (.int .i64 ho) := (cOH hxh 0).trans rfl;have x1 : W2.cell? ⟨xb, 1, none⟩ = some (.int .i64 k) := (cOH hxh 1).trans rfl;have x2 : W2.cell? ⟨xb, 2, none⟩ = some (.int .i64 tg) := (cOH hxh 2).trans rfl;have zx := hL_ hxh;obtain ⟨cr, hcr⟩ : ∃ cr, cr = (ch c.p k).clear := ⟨_, rfl⟩;obtain ⟨x, hx⟩ : ∃ x, x = getI s.brash k := ⟨_, rfl⟩;have hxr := hbr k;rw [← hcr] at q5;rw [← hx] at q4 hxr;have hcrr : 0 ≤ cr ∧ cr ≤ 200 := by rw [hcr]; exact hcl _ (ch_mem (by omega) (by omega))
  have hmul : 0 ≤ tg * cr ∧ tg * cr ≤ 4000 := ⟨Int.mul_nonneg tg0 hcrr.1, by have := Int.mul_le_mul tg1 hcrr.2 hcrr.1 (by omega : (0 : Int) ≤ 20); omega⟩;obtain ⟨z, hz⟩ : ∃ z, z = max 0 (x - tg * cr) := ⟨_, rfl⟩;have HZ := Lib.hid hz;have zc := World.block_lt_of_cell? _ _ q5;rw [eAs] at hInv ⊢;have HI := Lib.hid hInv;have HS := Lib.hid (And.intro S2 (And.intro hcr hx));have n1 : (i : Int) < (L : Int) := by omega
  have k1 : (0 : Int) ≤ (k : Int) := by omega
  have k2 : (k : Int) < (c.p.chs.length : Int) := by omega
  rw [eAc] at q3;clear hInv S S2 E Er E2 hxh hcc hcr hx hbr hcl h0 h1 eAs eAc hbc hbs g0 g1 g2 hg hz;by_cases hh : ho = h
  · subst hh;go_upto_region 4 with fail
    rw [← hW2, ← hxb];clear hW2 hxb d0 d1 d2 zs;refine wRS (σ := Unit) (by kernel_rfl) (by kernel_rfl) (fun _ jx vx _ => SwV W2 c.wb xb c.gb c.pb bc oc c.p.chs.length c.c1 c.cc k x tg cr z jx vx) (fun _ ly wx => SwW W2 c.wb xb c.gb c.pb bc oc c.p.chs.length c.c1 c.cc k x tg cr z ly wx) () ?_ ?_ ?_
    · exact (by unfold SwW; rw [if_neg (by simp)])
    · simp only [AllFrom, Nat.zero_add, Nat.reduceAdd];refine ⟨?_, ?_, ?_, ?_, ?_, ?_, ?_, ?_, ?_, ?_, ?_, ?_, ?_, ?_, ?_, ?_, ?_, ?_, ?_, ?_, ?_, ?_, ?_, ?_, ?_, ?_, ?_, ?_, ?_, ?_, ?_, ?_, ?_, trivial⟩
      · refine sP_ fun sg ly a wr hl hd hW hF => ?_;have et0 := hF.old 0 (by kernel_rfl);simp [Act.eval] at et0;exact ⟨by simpa [SwW, upd] using hW, .pointer (some ⟨c.wb, 0, none⟩), by go_simp, rfl⟩
      · refine sP_ fun sg ly a wr hl hd hW hF => ?_;simp [Region.binds] at hd;have et22 := hF.new 0 22 (by simp [hd]) rfl;simp [SwV, Act.eval] at et22;exact ⟨by simpa [SwW, upd] using hW, .pointer (some ⟨c.wb, 0, none⟩), by go_simp, rfl⟩
      · refine sP_ fun sg ly a wr hl hd hW hF => ?_;simp [Region.binds] at hd;have et23 := hF.new 1 23 (by simp [hd]) rfl;simp [SwV, Act.eval] at et23;exact ⟨by simpa [SwW, upd] using hW, .pointer (some ⟨c.wb, 2, none⟩), by go_simp, rfl⟩
      · refine sP_ fun sg ly a wr hl hd hW hF => ?_;simp [Region.binds] at hd;have et24 := hF.new 2 24 (by simp [hd]) rfl;simp [SwV, Act.eval] at et24;have nL_31 := hF.notYet 3 31 hl (by kernel_rfl);have nL := hF.notYet 31 32 nL_31 (by kernel_rfl);have hW' := hW;unfold SwW at hW';rw [if_neg (by simp [nL])] at hW';subst hW';exact ⟨by unfold SwW; rw [if_neg (by simp [upd, nL])], _, by go_simp, rfl⟩
      · refine sP_ fun sg ly a wr hl hd hW hF => ?_;have et5 := hF.old 5 (by kernel_rfl);simp [Act.eval] at et5;exact ⟨by simpa [SwW, upd] using hW, .pointer (some ⟨xb, 1, none⟩), by go_simp, rfl⟩
      · refine sP_ fun sg ly a wr hl hd hW hF => ?_;simp [Region.binds] at hd;have et26 := hF.new 4 26 (by simp [hd]) rfl;simp [SwV, Act.eval] at et26;have nL_31 := hF.notYet 5 31 hl (by kernel_rfl);have nL := hF.notYet 31 32 nL_31 (by kernel_rfl);have hW' := hW;unfold SwW at hW';rw [if_neg (by simp [nL])] at hW';subst hW';exact ⟨by unfold SwW; rw [if_neg (by simp [upd, nL])], _, by go_simp, rfl⟩
      · refine sP_ fun sg ly a wr hl hd hW hF => ?_;have et0 := hF.old 0 (by kernel_rfl);simp [Act.eval] at et0;exact ⟨by simpa [SwW, upd] using hW, .pointer (some ⟨c.wb, 0, none⟩), by go_simp, rfl⟩
      · refine sP_ fun sg ly a wr hl hd hW hF => ?_;simp [Region.binds] at hd;have et28 := hF.new 6 28 (by simp [hd]) rfl;simp [SwV, Act.eval] at et28;exact ⟨by simpa [SwW, upd] using hW, .pointer (some ⟨c.wb, 0, none⟩), by go_simp, rfl⟩
      · refine sP_ fun sg ly a wr hl hd hW hF => ?_;simp [Region.binds] at hd;have et29 := hF.new 7 29 (by simp [hd]) rfl;simp [SwV, Act.eval] at et29;exact ⟨by simpa [SwW, upd] using hW, .pointer (some ⟨c.wb, 2, none⟩), by go_simp, rfl⟩
      · refine sP_ fun sg ly a wr hl hd hW hF => ?_;simp [Region.binds] at hd;have et30 := hF.new 8 30 (by simp [hd]) rfl;simp [SwV, Act.eval] at et30;have nL_12 := hF.notYet 9 12 hl (by kernel_rfl);have nL_13 := hF.notYet 12 13 nL_12 (by kernel_rfl);have nL_29 := hF.notYet 13 29 nL_13 (by kernel_rfl);have nL_30 := hF.notYet 29 30 nL_29 (by kernel_rfl);have nL := hF.notYet 30 32 nL_30 (by kernel_rfl);have hW' := hW;unfold SwW at hW';rw [if_neg (by simp [nL])] at hW';subst hW';exact ⟨by unfold SwW; rw [if_neg (by simp [upd, nL])], _, by go_simp, rfl⟩
      · refine sP_ fun sg ly a wr hl hd hW hF => ?_;have et5 := hF.old 5 (by kernel_rfl);simp [Act.eval] at et5;exact ⟨by simpa [SwW, upd] using hW, .pointer (some ⟨xb, 1, none⟩), by go_simp, rfl⟩
      · refine sP_ fun sg ly a wr hl hd hW hF => ?_;simp [Region.binds] at hd;have et32 := hF.new 10 32 (by simp [hd]) rfl;simp [SwV, Act.eval] at et32;have nL_12 := hF.notYet 11 12 hl (by kernel_rfl);have nL_13 := hF.notYet 12 13 nL_12 (by kernel_rfl);have nL_29 := hF.notYet 13 29 nL_13 (by kernel_rfl);have nL_30 := hF.notYet 29 30 nL_29 (by kernel_rfl);have nL := hF.notYet 30 32 nL_30 (by kernel_rfl);have hW' := hW;unfold SwW at hW';rw [if_neg (by simp [nL])] at hW';subst hW';exact ⟨by unfold SwW; rw [if_neg (by simp [upd, nL])], _, by go_simp, rfl⟩
      · refine sP_ fun sg ly a wr hl hd hW hF => ?_;simp [Region.binds] at hd;have et31 := hF.new 9 31 (by simp [hd]) rfl;simp [SwV, Act.eval] at et31;have et33 := hF.new 11 33 (by simp [hd]) rfl;simp [SwV, Act.eval] at et33;exact ⟨by simpa [SwW, upd] using hW, .pointer (some ⟨c.gb, k, none⟩), by go_simp, rfl⟩
      · refine sP_ fun sg ly a wr hl hd hW hF => ?_;simp [Region.binds] at hd;have et34 := hF.new 12 34 (by simp [hd]) rfl;simp [SwV, Act.eval] at et34;have nL_29 := hF.notYet 13 29 hl (by kernel_rfl);have nL_30 := hF.notYet 29 30 nL_29 (by kernel_rfl);have nL := hF.notYet 30 32 nL_30 (by kernel_rfl);have hW' := hW;unfold SwW at hW';rw [if_neg (by simp [nL])] at hW';subst hW';exact ⟨by unfold SwW; rw [if_neg (by simp [upd, nL])], _, by go_simp, rfl⟩
      · refine sP_ fun sg ly a wr hl hd hW hF => ?_;have et5 := hF.old 5 (by kernel_rfl);simp [Act.eval] at et5;exact ⟨by simpa [SwW, upd] using hW, .pointer (some ⟨xb, 2, none⟩), by go_simp, rfl⟩
      · refine sP_ fun sg ly a wr hl hd hW hF => ?_;simp [Region.binds] at hd;have et36 := hF.new 14 36 (by simp [hd]) rfl;simp [SwV, Act.eval] at et36;have nL_28 := hF.notYet 15 28 hl (by kernel_rfl);have nL_29 := hF.notYet 28 29 nL_28 (by kernel_rfl);have nL_30 := hF.notYet 29 30 nL_29 (by kernel_rfl);have nL := hF.notYet 30 32 nL_30 (by kernel_rfl);have hW' := hW;unfold SwW at hW';rw [if_neg (by simp [nL])] at hW';subst hW';exact ⟨by unfold SwW; rw [if_neg (by simp [upd, nL])], _, by go_simp, rfl⟩
      · refine sP_ fun sg ly a wr hl hd hW hF => ?_;have et0 := hF.old 0 (by kernel_rfl);simp [Act.eval] at et0;exact ⟨by simpa [SwW, upd] using hW, .pointer (some ⟨c.wb, 0, none⟩), by go_simp, rfl⟩
      · refine sP_ fun sg ly a wr hl hd hW hF => ?_;simp [Region.binds] at hd;have et38 := hF.new 16 38 (by simp [hd]) rfl;simp [SwV, Act.eval] at et38;exact ⟨by simpa [SwW, upd] using hW, .pointer (some ⟨c.wb, 0, none⟩), by go_simp, rfl⟩
      · refine sP_ fun sg ly a wr hl hd hW hF => ?_;simp [Region.binds] at hd;have et39 := hF.new 17 39 (by simp [hd]) rfl;simp [SwV, Act.eval] at et39;exact ⟨by simpa [SwW, upd] using hW, .pointer (some ⟨c.wb, 0, none⟩), by go_simp, rfl⟩
      · refine sP_ fun sg ly a wr hl hd hW hF => ?_;simp [Region.binds] at hd;have et40 := hF.new 18 40 (by simp [hd]) rfl;simp [SwV, Act.eval] at et40;have nL_20 := hF.notYet 19 20 hl (by kernel_rfl);have nL_21 := hF.notYet 20 21 nL_20 (by kernel_rfl);have nL_22 := hF.notYet 21 22 nL_21 (by kernel_rfl);have nL_25 := hF.notYet 22 25 nL_22 (by kernel_rfl);have nL_26 := hF.notYet 25 26 nL_25 (by kernel_rfl);have nL_27 := hF.notYet 26 27 nL_26 (by kernel_rfl);have nL_28 := hF.notYet 27 28 nL_27 (by kernel_rfl);have nL_29 := hF.notYet 28 29 nL_28 (by kernel_rfl);have nL_30 := hF.notYet 29 30 nL_29 (by kernel_rfl);have nL := hF.notYet 30 32 nL_30 (by kernel_rfl);have hW' := hW;unfold SwW at hW';rw [if_neg (by simp [nL])] at hW';subst hW';exact ⟨by unfold SwW; rw [if_neg (by simp [upd, nL])], _, by go_simp, rfl⟩
      · refine sP_ fun sg ly a wr hl hd hW hF => ?_;simp [Region.binds] at hd;have et41 := hF.new 19 41 (by simp [hd]) rfl;simp [SwV, Act.eval] at et41;exact ⟨by simpa [SwW, upd] using hW, .pointer (some ⟨c.pb, 0, none⟩), by go_simp, rfl⟩
      · refine sP_ fun sg ly a wr hl hd hW hF => ?_;simp [Region.binds] at hd;have et42 := hF.new 20 42 (by simp [hd]) rfl;simp [SwV, Act.eval] at et42;exact ⟨by simpa [SwW, upd] using hW, .pointer (some ⟨c.pb, 0, none⟩), by go_simp, rfl⟩
      · refine sP_ fun sg ly a wr hl hd hW hF => ?_;simp [Region.binds] at hd;have et43 := hF.new 21 43 (by simp [hd]) rfl;simp [SwV, Act.eval] at et43;have nL_25 := hF.notYet 22 25 hl (by kernel_rfl);have nL_26 := hF.notYet 25 26 nL_25 (by kernel_rfl);have nL_27 := hF.notYet 26 27 nL_26 (by kernel_rfl);have nL_28 := hF.notYet 27 28 nL_27 (by kernel_rfl);have nL_29 := hF.notYet 28 29 nL_28 (by kernel_rfl);have nL_30 := hF.notYet 29 30 nL_29 (by kernel_rfl);have nL := hF.notYet 30 32 nL_30 (by kernel_rfl);have hW' := hW;unfold SwW at hW';rw [if_neg (by simp [nL])] at hW';subst hW';exact ⟨by unfold SwW; rw [if_neg (by simp [upd, nL])], _, by go_simp, rfl⟩
      · refine sP_ fun sg ly a wr hl hd hW hF => ?_;have et5 := hF.old 5 (by kernel_rfl);simp [Act.eval] at et5;exact ⟨by simpa [SwW, upd] using hW, .pointer (some ⟨xb, 1, none⟩), by go_simp, rfl⟩
      · refine sP_ fun sg ly a wr hl hd hW hF => ?_;simp [Region.binds] at hd;have et45 := hF.new 23 45 (by simp [hd]) rfl;simp [SwV, Act.eval] at et45;have nL_25 := hF.notYet 24 25 hl (by kernel_rfl);have nL_26 := hF.notYet 25 26 nL_25 (by kernel_rfl);have nL_27 := hF.notYet 26 27 nL_26 (by kernel_rfl);have nL_28 := hF.notYet 27 28 nL_27 (by kernel_rfl);have nL_29 := hF.notYet 28 29 nL_28 (by kernel_rfl);have nL_30 := hF.notYet 29 30 nL_29 (by kernel_rfl);have nL := hF.notYet 30 32 nL_30 (by kernel_rfl);have hW' := hW;unfold SwW at hW';rw [if_neg (by simp [nL])] at hW';subst hW';exact ⟨by unfold SwW; rw [if_neg (by simp [upd, nL])], _, by go_simp, rfl⟩
      · refine sP_ fun sg ly a wr hl hd hW hF => ?_;simp [Region.binds] at hd;have et44 := hF.new 22 44 (by simp [hd]) rfl;simp [SwV, Act.eval] at et44;have et46 := hF.new 24 46 (by simp [hd]) rfl;simp [SwV, Act.eval] at et46;exact ⟨by simpa [SwW, upd] using hW, .pointer (some ⟨bc, oc + k * 3, none⟩), by go_simp, rfl⟩
      · refine sP_ fun sg ly a wr hl hd hW hF => ?_;simp [Region.binds] at hd;have et47 := hF.new 25 47 (by simp [hd]) rfl;simp [SwV, Act.eval] at et47;exact ⟨by simpa [SwW, upd] using hW, .pointer (some ⟨bc, oc + k * 3 + 2, none⟩), by go_simp, rfl⟩
      · refine sP_ fun sg ly a wr hl hd hW hF => ?_;simp [Region.binds] at hd;have et48 := hF.new 26 48 (by simp [hd]) rfl;simp [SwV, Act.eval] at et48;have nL_28 := hF.notYet 27 28 hl (by kernel_rfl);have nL_29 := hF.notYet 28 29 nL_28 (by kernel_rfl);have nL_30 := hF.notYet 29 30 nL_29 (by kernel_rfl);have nL := hF.notYet 30 32 nL_30 (by kernel_rfl);have hW' := hW;unfold SwW at hW';rw [if_neg (by simp [nL])] at hW';subst hW';exact ⟨by unfold SwW; rw [if_neg (by simp [upd, nL])], _, by go_simp, rfl⟩
      · refine sP_ fun sg ly a wr hl hd hW hF => ?_;simp [Region.binds] at hd;have et37 := hF.new 15 37 (by simp [hd]) rfl;simp [SwV, Act.eval] at et37;have et49 := hF.new 27 49 (by simp [hd]) rfl;simp [SwV, Act.eval] at et49;have ew := IntWalk.i64_in (tg * cr) (by omega);exact ⟨by simpa [SwW, upd] using hW, .int .i64 (tg * cr), by go_simp, rfl⟩
      · refine sP_ fun sg ly a wr hl hd hW hF => ?_;simp [Region.binds] at hd;have et35 := hF.new 13 35 (by simp [hd]) rfl;simp [SwV, Act.eval] at et35;have et50 := hF.new 28 50 (by simp [hd]) rfl;simp [SwV, Act.eval] at et50;have ew := IntWalk.i64_in (x - (tg * cr)) (by omega);exact ⟨by simpa [SwW, upd] using hW, .int .i64 (x - (tg * cr)), by go_simp, rfl⟩
      · refine sP_ fun sg ly a wr hl hd hW hF => ?_;simp [Region.binds] at hd;have et51 := hF.new 29 51 (by simp [hd]) rfl;simp [SwV, Act.eval] at et51;have hz2 : (if tg * cr < x then x - tg * cr else 0) = z := by rw [HZ.out]; split <;> omega
        exact ⟨by simpa [SwW, upd] using hW, .int .i64 z, by go_simp, rfl⟩
      · refine sP_ fun sg ly a wr hl hd hW hF => ?_;simp [Region.binds] at hd;have et25 := hF.new 3 25 (by simp [hd]) rfl;simp [SwV, Act.eval] at et25;have et27 := hF.new 5 27 (by simp [hd]) rfl;simp [SwV, Act.eval] at et27;exact ⟨by simpa [SwW, upd] using hW, .pointer (some ⟨c.gb, k, none⟩), by go_simp, rfl⟩
      · refine sS_ rfl fun sg ly a wr hl hd hW hF => ?_;simp [Region.binds] at hd;have et53 := hF.new 31 53 (by simp [hd]) rfl;simp [SwV, Act.eval] at et53;have et52 := hF.new 30 52 (by simp [hd]) rfl;simp [SwV, Act.eval] at et52;have hW' := hW;unfold SwW at hW';rw [if_neg (by simp [hl])] at hW';subst hW';refine ⟨(W2.setCell ⟨c.gb, k, none⟩ (.int .i64 z)).drew, (), .skip, by go_simp, .inl rfl, by unfold SwW; rw [if_pos (by simp [upd])], fun _ _ _ h => h⟩
    intro _ a w3 hWW hF;obtain ⟨f3, hf3, rfl⟩ := hF.lit;have hw3 : w3 = (W2.setCell ⟨c.gb, k, none⟩ (.int .i64 z)).drew := by
      have h5 := hWW;unfold SwW at h5
      rwa [if_pos (by simp)] at h5
    clear hf3 hF hWW;simp only [List.filterMap, List.foldl, List.setIfInBounds_toArray, List.set_cons_succ, List.set_cons_zero];have S3 := HS.out.1.setBr N z hk;rw [← hw3] at S3;have H3 := Lib.hid S3;clear hw3 S3;go_wp2_with fail
    refine HI.out _ _ _ _ _ _ _ _ _ _ _ _ _ _ _ _ _ _ _ _ _ _ _ _ _ _ _ _ _ _ _ _ _ _ _ _ _ _ _ _ _ _ ?_;have e : swp1 c.p ho s.brash ⟨ho, k, tg⟩ = setI s.brash k z := by unfold swp1; rw [if_pos rfl, HZ.out, HS.out.2.1, HS.out.2.2]
    rw [e];exact H3.out
  · have hf : (ho == h) = false := by simpa using hh
    have HH := Lib.hid hh;clear hh;go_wp2_with fail
    refine HI.out _ _ _ _ _ _ _ _ _ _ _ _ _ _ _ _ _ _ _ _ _ _ _ _ _ _ _ _ _ _ _ _ _ _ _ _ _ _ _ _ _ _ ?_;have e : swp1 c.p h s.brash ⟨ho, k, tg⟩ = s.brash := by unfold swp1; rw [if_neg HH.out]
    rw [e];first | exact HS.out.1 | (rw [← hW2]; exact HS.out.1)
end Go.Proofs.Ythmldeningpjbaa
namespace Go.Proofs.Ythmldeningpjbaa.Pt
open Sp
def seekB (p : Prt) (l : List Vst) (n : Nat) (waiting : Int) (free : List Int) (done : List Bool) (i : Nat) (s : Bst) (b : Nat) : Bst :=
  if (p.bts.getD b default).depth < (vs l i).dra ∨ (vs l i).last < max (vs l i).arr (free.getD b 0) then s
  else seekS p l n (waiting + max (vs l i).arr (free.getD b 0) - (vs l i).arr) (free.set b (max (vs l i).arr (free.getD b 0) + (vs l i).stay)) (done.set i true)
    ⟨s.least, s.found, s.places.set i ⟨b, max (vs l i).arr (free.getD b 0)⟩⟩
def seekI (p : Prt) (l : List Vst) (n : Nat) (waiting : Int) (free : List Int) (done : List Bool) (s : Bst) (i : Nat) : Bst :=
  if done.getD i false then s else (List.range p.bts.length).foldl (seekB p l n waiting free done i) s
theorem seekS_succ (p : Prt) (l : List Vst) (n : Nat) (waiting : Int) (free : List Int) (done : List Bool) (s : Bst) :
    seekS p l (n + 1) waiting free done s = if 0 ≤ s.least ∧ s.least < waiting then s else (List.range l.length).foldl (seekI p l n waiting free done) s := rfl
theorem range_foldl_succ {T : Type} (f : T → Nat → T) (s : T) (k : Nat) : (List.range (k + 1)).foldl f s = f ((List.range k).foldl f s) k := by
  rw [List.range_succ, List.foldl_append]; rfl
end Go.Proofs.Ythmldeningpjbaa.Pt
namespace Go.Proofs.Ythmldeningpjbaa
open Go Go.RowKit Sp Pt
structure BC where
  bl : Nat
  bv : Nat
  bp : Nat
  bf : Nat
  bd : Nat
  bq : Nat
  br : Nat
  bs : Nat
  gp : Nat
  gd : Nat
  gf : Nat
  D : Nat
  Ac : Option Addr
  Ab : Option Addr
  Av : Option Addr
  cc : Nat
  cb : Nat
  cv : Nat
  p : Prt
  l : List Vst
abbrev bestCaps (c : BC) : Array Value := #[.pointer (some ⟨c.bl, 0, none⟩), .pointer (some ⟨c.bv, 0, none⟩), .pointer (some ⟨c.bp, 0, none⟩), .pointer (some ⟨c.bf, 0, none⟩), .pointer (some ⟨c.bd, 0, none⟩), .pointer (some ⟨c.bq, 0, none⟩), .pointer (some ⟨c.br, 0, none⟩), .pointer (some ⟨c.bs, 0, none⟩)]
abbrev bset (c : BC) : List Nat := [c.bl, c.bf, c.gp, c.gd, c.gf]
structure BE (c : BC) (W : World) : Prop where
  hv : W.heap[c.bv]? = some (.cells #[.slice c.Av c.l.length c.cv] 100 (0, 0))
  hp : W.heap[c.bp]? = some (.cells #[.slice (some ⟨c.gp, 0, none⟩) c.l.length c.l.length] 103 (0, 0))
  hd : W.heap[c.bd]? = some (.cells #[.slice (some ⟨c.gd, 0, none⟩) c.l.length c.l.length] 40 (0, 0))
  hq : W.heap[c.bq]? = some (.cells (prtV c.Ac c.cc c.Ab c.cb c.p) 26 (0, 0))
  hr : W.heap[c.br]? = some (.cells #[.slice (some ⟨c.gf, 0, none⟩) c.p.bts.length c.p.bts.length] 33 (0, 0))
  hs : W.heap[c.bs]? = some (.cells #[.func (.func 129) #[] (bestCaps c)] 211 (0, 0))
  PB : PrtB c.D W c.Ac c.cc c.Ab c.cb c.p
  VB : RdB c.D W 4 c.Av c.l.length (vscs c.l)
  hD : c.D ≤ W.heap.size
structure BN (c : BC) : Prop where
  nd : c.bl ≠ c.bf ∧ c.bl ≠ c.gp ∧ c.bl ≠ c.gd ∧ c.bl ≠ c.gf ∧ c.bf ≠ c.gp ∧ c.bf ≠ c.gd ∧ c.bf ≠ c.gf ∧ c.gp ≠ c.gd ∧ c.gp ≠ c.gf ∧ c.gd ≠ c.gf
  nv : c.bv ∉ bset c
  np : c.bp ∉ bset c
  nd' : c.bd ∉ bset c
  nq : c.bq ∉ bset c
  nr : c.br ∉ bset c
  ns : c.bs ∉ bset c
  hD : ∀ x ∈ bset c, c.D ≤ x
  len : c.l.length ≤ 5
  vok : ∀ v ∈ c.l, 0 ≤ v.arr ∧ v.arr ≤ 1000 ∧ v.arr ≤ v.last ∧ v.last ≤ 2000 ∧ 1 ≤ v.stay ∧ v.stay ≤ 100 ∧ 10 ≤ v.dra ∧ v.dra ≤ 3000
  pv : PVal c.p
def RdN (S : List Nat) (w : World) (size : Nat) (A : Option Addr) (n cf : Nat) (xs : List Value) : Prop :=
  xs.length = n * size ∧ (0 < n → ∃ b off, A = some ⟨b, off, none⟩ ∧ b < w.heap.size ∧ b ∉ S ∧ ∀ j u, xs[j]? = some u → w.cell? ⟨b, off + j, none⟩ = some u) ∧ n ≤ cf ∧ cf ≤ 9223372036854775807
theorem RdN.rd {S : List Nat} {w : World} {size : Nat} {A : Option Addr} {n cf : Nat} {xs : List Value} (h : RdN S w size A n cf xs) : Rd w size A n xs :=
  ⟨h.1, fun h0 => by obtain ⟨b, off, e, hb, _, hc⟩ := h.2.1 h0; exact ⟨b, off, e, hb, hc⟩⟩
theorem RdN.keep {S : List Nat} {w w' : World} {size : Nat} {A : Option Addr} {n cf : Nat} {xs : List Value} (h : RdN S w size A n cf xs) (hk : Keep S w w') : RdN S w' size A n cf xs :=
  ⟨h.1, fun h0 => by obtain ⟨b, off, e, hb, hn, hc⟩ := h.2.1 h0; exact ⟨b, off, e, Nat.lt_of_lt_of_le hb hk.size, hn, fun j u hu => hk.cell (hc j u hu) hn⟩, h.2.2⟩
structure BS (c : BC) (W w : World) (free : List Int) (done : List Bool) (s : Bst) : Prop where
  kp : Keep (bset c) W w
  le : w.heap[c.bl]? = some (.cells #[.int .i64 s.least] 3 (0, 0))
  pl : w.heap[c.gp]? = some (.cells (plcs s.places).toArray 109 (0, 0))
  dn : w.heap[c.gd]? = some (.cells (bools done).toArray 4 (0, 0))
  fr : w.heap[c.gf]? = some (.cells (ints free).toArray 3 (0, 0))
  fo : ∃ A cf, w.heap[c.bf]? = some (.cells #[.slice A s.found.length cf] 103 (0, 0)) ∧ RdN (bset c) w 2 A s.found.length cf (plcs s.found)
  lp : s.places.length = c.l.length
  ld : done.length = c.l.length
  lf : free.length = c.p.bts.length
  lo : s.found.length ≤ 5
  fb : ∀ x ∈ free, 0 ≤ x ∧ x ≤ 2100
  pb : ∀ x ∈ s.places, plcOk x
  ob : ∀ x ∈ s.found, plcOk x
  leb : -1 ≤ s.least ∧ s.least ≤ 1000000
section
variable {c : BC} {W w w' : World} {free : List Int} {done : List Bool} {s : Bst}
theorem BE.keep (h : BE c W) (n : BN c) (hk : Keep (bset c) W w) : BE c w := by
  have hd : Below c.D W w := hk.below h.hD n.hD;exact ⟨(hk.block _ (hL_ h.hv) n.nv).trans h.hv, (hk.block _ (hL_ h.hp) n.np).trans h.hp, (hk.block _ (hL_ h.hd) n.nd').trans h.hd, (hk.block _ (hL_ h.hq) n.nq).trans h.hq, (hk.block _ (hL_ h.hr) n.nr).trans h.hr, (hk.block _ (hL_ h.hs) n.ns).trans h.hs, h.PB.below hd, h.VB.below hd, Nat.le_trans h.hD hk.size⟩
theorem BE.cells (h : BE c W) : W.cell? ⟨c.bv, 0, none⟩ = some (.slice c.Av c.l.length c.cv) ∧ W.cell? ⟨c.bp, 0, none⟩ = some (.slice (some ⟨c.gp, 0, none⟩) c.l.length c.l.length) ∧ W.cell? ⟨c.bd, 0, none⟩ = some (.slice (some ⟨c.gd, 0, none⟩) c.l.length c.l.length) ∧
    W.cell? ⟨c.bq, 0, none⟩ = some (.slice c.Ac c.p.chs.length c.cc) ∧ W.cell? ⟨c.bq, 1, none⟩ = some (.slice c.Ab c.p.bts.length c.cb) ∧ W.cell? ⟨c.br, 0, none⟩ = some (.slice (some ⟨c.gf, 0, none⟩) c.p.bts.length c.p.bts.length) ∧ W.cell? ⟨c.bs, 0, none⟩ = some (.func (.func 129) #[] (bestCaps c)) :=
  ⟨(cOH h.hv 0).trans rfl, (cOH h.hp 0).trans rfl, (cOH h.hd 0).trans rfl, (cOH h.hq 0).trans rfl, (cOH h.hq 1).trans rfl, (cOH h.hr 0).trans rfl, (cOH h.hs 0).trans rfl⟩
theorem BE.lts (h : BE c W) : c.bv < W.heap.size ∧ c.bp < W.heap.size ∧ c.bd < W.heap.size ∧ c.bq < W.heap.size ∧ c.br < W.heap.size ∧ c.bs < W.heap.size :=
  ⟨hL_ h.hv, hL_ h.hp, hL_ h.hd, hL_ h.hq, hL_ h.hr, hL_ h.hs⟩
theorem BS.lts (h : BS c W w free done s) : c.bl < w.heap.size ∧ c.bf < w.heap.size ∧ c.gp < w.heap.size ∧ c.gd < w.heap.size ∧ c.gf < w.heap.size := by
  obtain ⟨A, cf, h1, _⟩ := h.fo;exact ⟨hL_ h.le, hL_ h1, hL_ h.pl, hL_ h.dn, hL_ h.fr⟩
theorem BS.notin (h : BS c W w free done s) {x : Nat} (hx : w.heap.size ≤ x) : x ∉ bset c := by
  obtain ⟨a, b, d, e, f⟩ := h.lts;simp;omega
theorem BS.start (h : BS c W w free done s) : BS c w w free done s := ⟨Keep.refl _ _, h.le, h.pl, h.dn, h.fr, h.fo, h.lp, h.ld, h.lf, h.lo, h.fb, h.pb, h.ob, h.leb⟩
theorem BS.after {free' : List Int} {done' : List Bool} {s' : Bst} (h : BS c W w free done s) (h' : BS c w w' free' done' s') : BS c W w' free' done' s' :=
  ⟨h.kp.trans h'.kp (fun x hx => .inl hx), h'.le, h'.pl, h'.dn, h'.fr, h'.fo, h'.lp, h'.ld, h'.lf, h'.lo, h'.fb, h'.pb, h'.ob, h'.leb⟩
theorem BS.keep0 (h : BS c W w free done s) (hk : Keep [] w w') : BS c W w' free done s := by
  obtain ⟨A, cf, h1, h2⟩ := h.fo;have B : ∀ {x : Nat} {o : Obj}, w.heap[x]? = some o → w'.heap[x]? = some o := fun hx => (hk.block _ (hL_ hx) (by simp)).trans hx;exact ⟨h.kp.trans hk (by simp), B h.le, B h.pl, B h.dn, B h.fr, ⟨A, cf, B h1, h2.keep (hk.mono (by simp))⟩, h.lp, h.ld, h.lf, h.lo, h.fb, h.pb, h.ob, h.leb⟩
theorem BS.alloc (h : BS c W w free done s) (o : Obj) : BS c W (w.alloc o) free done s := h.keep0 ((Keep.refl _ _).alloc o)
end
theorem plcs_set (x : Plc) : ∀ (P : List Plc) (i : Nat), i < P.length → ((plcs P).set (i * 2) (.int .i64 x.berth)).set (i * 2 + 1) (.int .i64 x.start) = plcs (P.set i x)
  | [], i, h => absurd h (by simp)
  | y :: P, 0, _ => by simp [plcs, plc]
  | y :: P, i + 1, h => by
    have := plcs_set x P i (by simpa using h);have e : (i + 1) * 2 = i * 2 + 1 + 1 := by omega
    simp only [plcs, List.flatMap_cons, plc, List.cons_append, List.nil_append, List.set_cons_succ, e] at this ⊢;rw [this]
theorem bools_setA (d : List Bool) (i : Nat) (x : Bool) : (bools d).toArray.setIfInBounds i (.bool x) = (bools (d.set i x)).toArray := by simp [bools, List.map_set]
theorem ints_setA (d : List Int) (i : Nat) (x : Int) : (ints d).toArray.setIfInBounds i (.int .i64 x) = (ints (d.set i x)).toArray := by simp [ints, List.map_set]
theorem plcs_setA (P : List Plc) (i : Nat) (x : Plc) (h : i < P.length) : ((plcs P).toArray.setIfInBounds (i * 2) (.int .i64 x.berth)).setIfInBounds (i * 2 + 1) (.int .i64 x.start) = (plcs (P.set i x)).toArray := by
  rw [List.setIfInBounds_toArray, List.setIfInBounds_toArray, plcs_set x P i h]
end Go.Proofs.Ythmldeningpjbaa
