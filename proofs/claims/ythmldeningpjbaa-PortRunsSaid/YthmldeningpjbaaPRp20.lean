import Derived.Test.YthmldeningpjbaaPRp19
import Derived.Test.YthmldeningpjbaaPRp7
import Derived.Test.YthmldeningpjbaaPRp9
import Derived.BigQuiet
set_option linter.unusedVariables false
set_option linter.unusedSimpArgs false
set_option maxRecDepth 100000
set_option maxHeartbeats 40000000
namespace Go.Proofs.Ythmldeningpjbaa
open Go Go.RowKit Sp Pt
def CalledPost (w : World) (i : Nat) (er : Int) (s : Stt) (e : Ending) (w' : World) : Prop := Below w.heap.size w w' ∧
  ((er = 0 ∧ ∃ A c q1 B d q2, e = .returned (.tuple #[.agg (sttV A c B d s), .int .i64 0, .int .i64 0]) ∧ OwnS w' 3 1 A s.brash.length c (ints s.brash) q1 ∧ OwnS w' 4 1 B s.busy.length d (bools s.busy) q2 ∧ (∀ x ∈ q1, w.heap.size ≤ x) ∧ (∀ x ∈ q2, w.heap.size ≤ x) ∧ (∀ x ∈ q1, x ∉ q2)) ∨
   (er ≠ 0 ∧ ∃ A n c B m d, e = .returned (.tuple #[.agg #[.slice A n c, .slice B m d], .int .i64 i, .int .i64 er])))
theorem growN_succ {p : Prt} {path : List Int} {b : List Int} {j : Nat} (hj : j < path.length) : growN p (path.take (j + 1)) b = setI (growN p (path.take j) b) (path.getD j 0) (getI (growN p (path.take j) b) (path.getD j 0) + (ch p (path.getD j 0)).grow) := by
  unfold growN; rw [List.take_succ_eq_append_getElem hj, List.foldl_append]; simp [grow1, List.getD_eq_getElem?_getD, hj]
theorem any_path_no {c : Int} {b : List Int} {path : List Int} (h : ∀ i, i < path.length → ¬ c < getI b (path.getD i 0)) : path.any (fun n => decide (c < getI b n)) = false := by
  rw [List.any_eq_false];intro x hx;obtain ⟨i, hi, rfl⟩ := List.mem_iff_getElem.1 hx;have := h i hi;simpa [List.getD_eq_getElem?_getD, hi] using this
theorem any_path_yes {c : Int} {b : List Int} {path : List Int} {i : Nat} (hi : i < path.length) (h : c < getI b (path.getD i 0)) : path.any (fun n => decide (c < getI b n)) = true := by
  rw [List.any_eq_true];exact ⟨path[i], List.getElem_mem hi, by simpa [List.getD_eq_getElem?_getD, hi] using h⟩
theorem bools_set (b : List Bool) (c : Nat) (y : Bool) : (bools b).set c (.bool y) = bools (b.set c y) := by simp [bools, List.map_set]
def CdgV (W0 : World) (sb pb pk pq pn ck gb bc oc n c cc cn j : Nat) (vv gr : Int) : Nat → Value → Prop
  | 0, v => v = .pointer (some ⟨sb, 0, none⟩)
  | 1, v => v = .slice (some ⟨gb, 0, none⟩) n c
  | 2, v => v = .slice (some ⟨pk, pq, none⟩) pn ck
  | 3, v => v = .int .i64 j
  | 4, v => v = .pointer (some ⟨pk, pq + j, none⟩)
  | 5, v => v = .int .i64 cn
  | 6, v => v = .pointer (some ⟨sb, 0, none⟩)
  | 7, v => v = .slice (some ⟨gb, 0, none⟩) n c
  | 8, v => v = .slice (some ⟨pk, pq, none⟩) pn ck
  | 9, v => v = .int .i64 j
  | 10, v => v = .pointer (some ⟨pk, pq + j, none⟩)
  | 11, v => v = .int .i64 cn
  | 12, v => v = .pointer (some ⟨gb, cn, none⟩)
  | 13, v => v = .int .i64 vv
  | 14, v => v = .pointer (some ⟨pb, 0, none⟩)
  | 15, v => v = .slice (some ⟨bc, oc, none⟩) n cc
  | 16, v => v = .slice (some ⟨pk, pq, none⟩) pn ck
  | 17, v => v = .int .i64 j
  | 18, v => v = .pointer (some ⟨pk, pq + j, none⟩)
  | 19, v => v = .int .i64 cn
  | 20, v => v = .pointer (some ⟨bc, oc + cn * 3, none⟩)
  | 21, v => v = .pointer (some ⟨bc, oc + cn * 3, none⟩)
  | 22, v => v = .int .i64 gr
  | 23, v => v = .int .i64 (vv + gr)
  | 24, v => v = .pointer (some ⟨gb, cn, none⟩)
  | _, _ => True
def CdgW (W0 : World) (sb pb pk pq pn ck gb bc oc n c cc cn j : Nat) (vv gr : Int) (l : Nat → Bool) (w : World) : Prop := if l 25 then w = (W0.setCell ⟨gb, cn, none⟩ (.int .i64 (vv + gr))).drew else w = W0.drew
theorem called_any (D : Nat) (Ac : Option Addr) (cc : Nat) (Ab : Option Addr) (cb : Nat) (p : Prt) (Ar : Option Addr) (cr : Nat) (Au : Option Addr) (cu : Nat) (s : Stt) (Al : Option Addr) (cl : Nat) (As : Option Addr) (cs : Nat) (l : Pln) (h : Int) (w : World)
    (PB : PrtB D w Ac cc Ab cb p) (SB : SttB D w Ar cr Au cu s) (LB : PlnB D w Al cl As cs l) (hD : D ≤ w.heap.size) (v : Val p l) (hn : s.brash.length = p.chs.length) (hm : s.busy.length = p.bts.length) (hbr : brR 1000000000 s.brash) :
    Calls Try.prog 128 #[.agg (prtV Ac cc Ab cb p), .agg (sttV Ar cr Au cu s), .agg (plnV Al cl As cs l), .int .i64 h] w (CalledPost w (callsN p h l.calls 0 s).1 (callsN p h l.calls 0 s).2.1 (callsN p h l.calls 0 s).2.2) := by
  obtain ⟨pb, hpb⟩ : ∃ b, b = w.heap.size := ⟨_, rfl⟩;obtain ⟨sb, hsb⟩ : ∃ b, b = w.heap.size + 1 := ⟨_, rfl⟩;obtain ⟨lb, hlb⟩ : ∃ b, b = w.heap.size + 1 + 1 := ⟨_, rfl⟩;obtain ⟨rb, hrb⟩ : ∃ b, b = w.heap.size + 1 + 1 + 1 := ⟨_, rfl⟩;obtain ⟨W, hW⟩ : ∃ W, W = (((w.alloc (.cells (prtV Ac cc Ab cb p) 79)).alloc (.cells (sttV Ar cr Au cu s) 81)).alloc (.cells (plnV Al cl As cs l) 85)).alloc (.cells #[.slice none 0 0, .slice none 0 0] 81) := ⟨_, rfl⟩;have O0 : Own w.heap.size w [.blk pb (.cells (prtV Ac cc Ab cb p) 79), .blk sb (.cells (sttV Ar cr Au cu s) 81), .blk lb (.cells (plnV Al cl As cs l) 85), .blk rb (.cells #[.slice none 0 0, .slice none 0 0] 81)] W := by
    have h := (((((Own.start w).alloc (.cells (prtV Ac cc Ab cb p) 79)).alloc (.cells (sttV Ar cr Au cu s) 81)).alloc (.cells (plnV Al cl As cs l) 85)).alloc (.cells #[.slice none 0 0, .slice none 0 0] 81));rw [hW, hpb, hsb, hlb, hrb];simpa using h
  have hnc := v.nc;have hnb := v.nb;have kc := copied_any D Ar cr Au cu s W (SB.below (O0.bel.mono hD)) (Nat.le_trans hD O0.bel.size) (by omega);obtain ⟨R, hR⟩ : ∃ R, R = callsN p h l.calls 0 s := ⟨_, rfl⟩;rw [← hR];have c0 := (cOH (O0.heap 1 rfl) 0).trans rfl;have c1 := (cOH (O0.heap 1 rfl) 1).trans rfl;have zs := hL_ (O0.heap 1 rfl);have hcap := And.intro PB.c1 (And.intro PB.c2 (And.intro LB.c1 SB.c1));have H0 := Lib.hid (And.intro O0 (And.intro kc (And.intro PB (And.intro LB (And.intro v (And.intro hn (And.intro hm (And.intro hbr hR))))))));clear O0 kc PB LB v hn hm hbr SB hR
  go_enter Try.func128, Try.ntmps128
  go_upto_region 1 with fail
  rw [← hW, ← hrb, ← hlb, ← hsb, ← hpb];clear hW hrb hlb hsb hpb;go_upto_region 2 with (go_at_call 127; refine H0.out.2.1.mono ?_; rintro e w1 ⟨A, c, q1, B, d, q2, rfl, o1, o2, f1, f2, f3, hb⟩; have O1 := H0.out.1.below hb; have t0 := (cOH (O1.heap 1 rfl) 0).trans rfl; have t1 := (cOH (O1.heap 1 rfl) 1).trans rfl; have u0 := fOH (O1.heap 1 rfl) 0; have u1 := fOH (O1.heap 1 rfl) 1; have zs1 := hL_ (O1.heap 1 rfl); have H1 := Lib.hid (And.intro O1 (And.intro o1 (And.intro o2 (And.intro f1 (And.intro f2 (And.intro f3 hb)))))); clear c0 c1 zs O1 o1 o2 f1 f2 f3 hb)
  obtain ⟨O1, o1, o2, f1, f2, f3, hb⟩ := H1.out;obtain ⟨w2, hw2⟩ : ∃ X, X = (w1.setCell ⟨sb, 0, none⟩ (.slice A s.brash.length c)).setCell ⟨sb, 1, none⟩ (.slice B s.busy.length d) := ⟨_, rfl⟩;rw [← hw2];have hW0 := H0.out.1.lo;have zlt : ∀ k x, k < 4 → (∃ o, [It.blk pb (.cells (prtV Ac cc Ab cb p) 79), .blk sb (.cells (sttV Ar cr Au cu s) 81), .blk lb (.cells (plnV Al cl As cs l) 85), .blk rb (.cells #[.slice none 0 0, .slice none 0 0] 81)][k]? = some (.blk x o)) → x < W.heap.size := fun k x _ ⟨o, ho⟩ => H0.out.1.lt k ho (x := x) (by simp [It.fp]);have O2 : Own w.heap.size w [.blk pb (.cells (prtV Ac cc Ab cb p) 79), .blk sb (.cells (sttV A c B d s) 81), .blk lb (.cells (plnV Al cl As cs l) 85), .blk rb (.cells #[.slice none 0 0, .slice none 0 0] 81), .own 3 1 A s.brash.length c (ints s.brash) q1, .own 4 1 B s.busy.length d (bools s.busy) q2] w2 := by
    have z0 := zlt 0 pb (by omega) ⟨_, rfl⟩;have z1 := zlt 1 sb (by omega) ⟨_, rfl⟩;have z2 := zlt 2 lb (by omega) ⟨_, rfl⟩;have z3 := zlt 3 rb (by omega) ⟨_, rfl⟩;have a := O1.add (i := .own 3 1 A s.brash.length c (ints s.brash) q1) o1 (fun x hx => by have := f1 x hx; omega) (by intro j hj x hx hm; have := f1 x hx; simp at hj; rcases hj with rfl | rfl | rfl | rfl <;> simp [It.fp] at hm <;> omega);have b := a.add (i := .own 4 1 B s.busy.length d (bools s.busy) q2) o2 (fun x hx => by have := f2 x hx; omega) (by
      intro j hj x hx hm; have := f2 x hx; simp at hj; rcases hj with rfl | rfl | rfl | rfl | rfl
      · simp [It.fp] at hm; omega
      · simp [It.fp] at hm; omega
      · simp [It.fp] at hm; omega
      · simp [It.fp] at hm; omega
      · exact f3 x hm hx)
    have e := b.set 1 rfl (((Keep.refl [sb] w1).setCell (.inl (by simp)) (.slice A s.brash.length c)).setCell (.inl (by simp)) (.slice B s.busy.length d)) (hS_ (hS_ (b.heap 1 rfl) 0 (.slice A s.brash.length c)) 1 (.slice B s.busy.length d));rw [hw2];exact e
  obtain ⟨N, hN⟩ : ∃ N, N = p.chs.length := ⟨_, rfl⟩;obtain ⟨M, hM⟩ : ∃ N, N = p.bts.length := ⟨_, rfl⟩;have hsn : s.brash.length = N := by rw [hN]; exact H0.out.2.2.2.2.2.1
  have hsm : s.busy.length = M := by rw [hM]; exact H0.out.2.2.2.2.2.2.1
  simp only [sttV, hsn, hsm] at O2 ⊢;obtain ⟨gb, rfl, rfl, -, -, -⟩ := (O2.owns 4 rfl).some_ (by omega);obtain ⟨ub, rfl, rfl, -, -, -⟩ := (O2.owns 5 rfl).some_ (by omega);have hca := (O2.owns 4 rfl).cap;have hcb := (O2.owns 5 rfl).cap;have hga := (O2.owns 4 rfl).ge;have hgb := (O2.owns 5 rfl).ge;have H2 := Lib.hid O2;clear O1 o1 o2 f1 f2 f3 hb hw2 O2 t0 t1 u0 u1 zs1 hW0 zlt;obtain ⟨L, hL⟩ : ∃ M, M = l.calls.length := ⟨_, rfl⟩;have hMM := H0.out.2.2.2.2.1.nx.1;rw [← hL] at hMM hcap;rw [← hM] at hcap hnb;rw [← hN] at hcap hnc;have HNM := Lib.hid (And.intro hL (And.intro hN (And.intro hM (And.intro hsn hsm))));clear hL hN hM hsn hsm;have e2 := (cOH (H2.out.heap 2 rfl) 1).trans rfl;have zl := hL_ (H2.out.heap 2 rfl);rw [show (plnV Al cl As cs l)[1]? = some (.slice Al L cl) from by rw [HNM.out.1]; rfl] at e2;go_wp2_with fail
  clear e2 zl
  go_loopg [11] (L) (fun g i wr => ∃ (k : Nat) (s' : Stt), g + k = L ∧ i = .int .i64 k ∧ Own w.heap.size w [.blk pb (.cells (prtV Ac cc Ab cb p) 79), .blk sb (.cells #[.slice (some ⟨gb, 0, none⟩) N c, .slice (some ⟨ub, 0, none⟩) M d] 81), .blk lb (.cells (plnV Al cl As cs l) 85), .blk rb (.cells #[.slice none 0 0, .slice none 0 0] 81), .own 3 1 (some ⟨gb, 0, none⟩) N c (ints s'.brash) [gb], .own 4 1 (some ⟨ub, 0, none⟩) M d (bools s'.busy) [ub]] wr ∧ R = callsN p h (l.calls.drop k) k s' ∧ s'.brash.length = N ∧ s'.busy.length = M ∧ brR (1000000000 + 600 * k) s'.brash)
  case atStart => exact ⟨0, s, rfl, rfl, H2.out, H0.out.2.2.2.2.2.2.2.2, HNM.out.2.2.2.1, HNM.out.2.2.2.2, fun c => by have := H0.out.2.2.2.2.2.2.2.1 c; omega⟩
  case round =>
    obtain ⟨k, s', hk, rfl, hO, hR, hl1, hl2, hbd⟩ := hrel;have e2 := (cOH (hO.heap 2 rfl) 1).trans rfl;have zl := hL_ (hO.heap 2 rfl);rw [show (plnV Al cl As cs l)[1]? = some (.slice Al L cl) from by rw [HNM.out.1]; rfl] at e2;by_cases hlt : k < L
    · have hkl : k < l.calls.length := by rw [← HNM.out.1]; exact hlt
      obtain ⟨b, off, hAs, hbD, hcell⟩ := (H0.out.2.2.2.1.below (hO.bel.mono hD)).calls.2 (by omega);obtain ⟨g0, g1, g2, g3, g4, g5⟩ := cacs_get hkl;obtain ⟨x, hx⟩ : ∃ x, x = l.calls[k] := ⟨_, rfl⟩;have hcv := H0.out.2.2.2.2.1.ca x (by rw [hx]; exact List.getElem_mem hkl);rw [← hx] at g0 g1 g2 g3 g4 g5;have y0 := hcell _ _ g0;have y1 : wr.cell? ⟨b, off + k * 6 + 1, none⟩ = _ := hcell _ _ g1;have y2 : wr.cell? ⟨b, off + k * 6 + 2, none⟩ = _ := hcell _ _ g2;have y3 : wr.cell? ⟨b, off + k * 6 + 3, none⟩ = _ := hcell _ _ g3;have y4 : wr.cell? ⟨b, off + k * 6 + 4, none⟩ = _ := hcell _ _ g4;have y5 : wr.cell? ⟨b, off + k * 6 + 5, none⟩ = _ := hcell _ _ g5;have zb := World.block_lt_of_cell? _ _ y0;have n2 : (k : Int) < (L : Int) := by omega
      rw [drop_cons' hkl, ← hx] at hR;obtain ⟨ho, be, ou, dr, mo, tg⟩ := x;simp only at y0 y1 y2 y3 y4 y5 hcv;rw [callsN] at hR;simp only at hR;have HX := Lib.hid (And.intro hR (And.intro hO (And.intro hl1 (And.intro hl2 hbd))));rw [hAs] at e2;clear hAs hR hO hl1 hl2 hbd hcell g0 g1 g2 g3 g4 g5 hx;go_upto_region 6 with fail
      obtain ⟨W3, hW3⟩ : ∃ X, X = wr.alloc (.cells #[.int .i64 ho, .int .i64 be, .bool ou, .int .i64 dr, .int .i64 mo, .int .i64 tg] 173) := ⟨_, rfl⟩;obtain ⟨xb, hxb⟩ : ∃ b, b = wr.heap.size := ⟨_, rfl⟩;have O3 : Own w.heap.size w [.blk pb (.cells (prtV Ac cc Ab cb p) 79), .blk sb (.cells #[.slice (some ⟨gb, 0, none⟩) N c, .slice (some ⟨ub, 0, none⟩) M d] 81), .blk lb (.cells (plnV Al cl As cs l) 85), .blk rb (.cells #[.slice none 0 0, .slice none 0 0] 81), .own 3 1 (some ⟨gb, 0, none⟩) N c (ints s'.brash) [gb], .own 4 1 (some ⟨ub, 0, none⟩) M d (bools s'.busy) [ub], .blk xb (.cells #[.int .i64 ho, .int .i64 be, .bool ou, .int .i64 dr, .int .i64 mo, .int .i64 tg] 173)] W3 := by have h := HX.out.2.1.alloc (.cells #[.int .i64 ho, .int .i64 be, .bool ou, .int .i64 dr, .int .i64 mo, .int .i64 tg] 173); rw [hW3, hxb]; simpa using h
      rw [← hW3, ← hxb];have H3 := Lib.hid O3;clear hW3 hxb O3 e2 zl y0 y1 y2 y3 y4 y5 zb;obtain ⟨G1, rfl⟩ : ∃ G, G = gk := ⟨_, rfl⟩;have x0 := (cOH (H3.out.heap 6 rfl) 0).trans rfl;have x1 := (cOH (H3.out.heap 6 rfl) 1).trans rfl;have x2 := (cOH (H3.out.heap 6 rfl) 2).trans rfl;have x4 := (cOH (H3.out.heap 6 rfl) 4).trans rfl;have zx := hL_ (H3.out.heap 6 rfl);by_cases hh : ho = h
      · subst hh;have hne : (ho != ho) = false := by simp
        obtain ⟨bn, rfl⟩ := Int.eq_ofNat_of_zero_le hcv.1;have hbn : bn < M := by have := HNM.out.2.2.1; omega
        have hbI : (0 : Int) ≤ (bn : Int) ∧ (bn : Int) < (M : Int) := by omega
        obtain ⟨bu, hbu⟩ : ∃ b, b = s'.busy.getD bn false := ⟨_, rfl⟩;have m1 := (cOH (H3.out.heap 1 rfl) 1).trans rfl;have m0 := (cOH (H3.out.heap 1 rfl) 0).trans rfl;have zsb := hL_ (H3.out.heap 1 rfl);obtain ⟨uq, huq, -, zu, huc, huf⟩ := (H3.out.owns 5 rfl).some_ (by omega);injection huq with huq
        injection huq with huq _ _
        subst huq;have m2 : W3.cell? ⟨ub, bn, none⟩ = some (.bool bu) := by rw [hbu]; exact huc bn _ (bools_get (by have := HX.out.2.2.2.1; omega))
        have hR2 : R = if bu ≠ ou then (k, 9, s') else if (bt p (bn : Int)).path.any (fun n => decide (mo < getI s'.brash n)) = true then (k, 8, s') else callsN p ho (l.calls.drop (k + 1)) (k + 1) ⟨growN p (bt p (bn : Int)).path s'.brash, s'.busy.set bn (!ou)⟩ := by
          have := HX.out.1;rw [if_neg (by simp), Int.toNat_natCast, ← hbu] at this;exact this
        have HR2 := Lib.hid (And.intro hR2 hbu);have r0 := (cOH (H3.out.heap 3 rfl) 0).trans rfl;have r1 := (cOH (H3.out.heap 3 rfl) 1).trans rfl;have w0 := fOH (H3.out.heap 3 rfl) 0;have w1' := fOH (H3.out.heap 3 rfl) 1;have zr := hL_ (H3.out.heap 3 rfl);clear hR2 hbu huc huf;by_cases hbo : bu = ou
        · subst hbo;have hbt : bt p (bn : Int) = p.bts[bn]'(by have := HNM.out.2.2.1; omega) := by unfold bt; rw [Int.toNat_natCast, List.getD_eq_getElem?_getD, List.getElem?_eq_getElem]; rfl
          obtain ⟨b2, off2, Ak, ck, hAb, hbD2, v0, v1, v2⟩ := (H0.out.2.2.1.below (H3.out.bel.mono hD)).bts bn (by have := HNM.out.2.2.1; omega);rw [← hbt] at v1 v2;have hpv := H0.out.2.2.2.2.1.btf _ (bt_mem (p := p) (i := (bn : Int)) (by omega) (by have := HNM.out.2.2.1; omega));obtain ⟨path, hpath⟩ : ∃ q, q = (bt p (bn : Int)).path := ⟨_, rfl⟩;rw [← hpath] at v1 v2 hpv;have hpl6 := nodup_range_le hpv.2.1 hpv.2.2;have hR3 := HR2.out.1;rw [if_neg (by simp), ← hpath] at hR3;obtain ⟨pk, pq, hAk, hpk, hpc⟩ := v2.1.2 (List.length_pos_iff.2 hpv.1);have hck := v2.2.1;have hckm := v2.2.2.1;obtain ⟨pn, hpn⟩ : ∃ n, n = path.length := ⟨_, rfl⟩;rw [← hpn] at v1 hck hpl6;have zb2 := World.block_lt_of_cell? _ _ v1;have m3 := (cOH (H3.out.heap 0 rfl) 1).trans rfl;rw [show (prtV Ac cc Ab cb p)[1]? = some (.slice Ab M cb) from by rw [HNM.out.2.2.1]; rfl, hAb] at m3;have zpb := hL_ (H3.out.heap 0 rfl);rw [hAk] at v1;have hpn0 : 0 < pn := by rw [hpn]; exact List.length_pos_iff.2 hpv.1
          have HP := Lib.hid (And.intro hR3 (And.intro hpv (And.intro hpk (And.intro hpc (And.intro hpn hpath)))));clear hR3 hpv hpk hpc hpn hAb hAk v0 v2 hbt hpath;go_upto_region 7 with fail
          go_cut [57] from 34 to 57 (fun b wx => b = .bool false ∧ W3 = wx)
          case first =>
            cases bu;all_goals
              go_wp2_with fail
              go_meet
              exact ⟨rfl, rfl⟩
          case rest =>
          obtain ⟨rfl, rfl⟩ := hcut;go_wp2_with fail
          clear m1 m2 r0 r1 w0 w1' zr x0 x1 x2 m3 v1 zb2
          go_loopg [14] (pn) (fun g i wi => ∃ (j : Nat) (mm : Nat), g + j = pn ∧ i = .int .i64 j ∧ (∀ i, i < j → ¬ mo < getI s'.brash (path.getD i 0)) ∧ wi = W3.drewN mm)
          case atStart => exact ⟨0, 0, rfl, rfl, fun i hi => absurd hi (by omega), rfl⟩
          case round =>
            obtain ⟨j, mm, hj, rfl, hno, rfl⟩ := hrel;obtain ⟨Wq, hWq⟩ : ∃ X, X = W3.drewN mm := ⟨_, rfl⟩;rw [← hWq];have OQ : Own w.heap.size w [.blk pb (.cells (prtV Ac cc Ab cb p) 79), .blk sb (.cells #[.slice (some ⟨gb, 0, none⟩) N c, .slice (some ⟨ub, 0, none⟩) M d] 81), .blk lb (.cells (plnV Al cl As cs l) 85), .blk rb (.cells #[.slice none 0 0, .slice none 0 0] 81), .own 3 1 (some ⟨gb, 0, none⟩) N c (ints s'.brash) [gb], .own 4 1 (some ⟨ub, 0, none⟩) M d (bools s'.busy) [ub], .blk xb (.cells #[.int .i64 ho, .int .i64 bn, .bool bu, .int .i64 dr, .int .i64 mo, .int .i64 tg] 173)] Wq := by rw [hWq]; exact ⟨bKD H3.out.bel _, H3.out.lo, fun a i h => ⟨It.keep (H3.out.get a h) (S := []) ((Keep.refl _ _).drewN _) (by simp) (by simp), (H3.out.at_ a i h).2⟩, H3.out.dis⟩
            have m0' := (cOH (OQ.heap 1 rfl) 0).trans rfl;have zsb' := hL_ (OQ.heap 1 rfl);have x4' := (cOH (OQ.heap 6 rfl) 4).trans rfl;have zx' := hL_ (OQ.heap 6 rfl);have HQ := Lib.hid (And.intro OQ (And.intro hno hWq));by_cases hlj : j < pn
            · obtain ⟨cn, hcn⟩ := Int.eq_ofNat_of_zero_le (HP.out.2.1.2.2 (path[j]'(by have := HP.out.2.2.2.2.1; omega)) (List.getElem_mem _)).1;have hcN : cn < N := by have := (HP.out.2.1.2.2 (path[j]'(by have := HP.out.2.2.2.2.1; omega)) (List.getElem_mem _)).2; have := HNM.out.2.1; omega
              have hpj : path.getD j 0 = (cn : Int) := by rw [List.getD_eq_getElem?_getD, List.getElem?_eq_getElem (by have := HP.out.2.2.2.2.1; omega)]; exact hcn
              have hpB : pk < Wq.heap.size := by have := HP.out.2.2.1; have := OQ.bel.size; omega
              have p0 : Wq.cell? ⟨pk, pq + j, none⟩ = some (.int .i64 cn) := by
                rw [hWq, ← hpj]; exact HP.out.2.2.2.1 j _ (iG_ (by have := HP.out.2.2.2.2.1; omega))
              obtain ⟨vv, hvv⟩ : ∃ v, v = getI s'.brash cn := ⟨_, rfl⟩;obtain ⟨gq, hgq, -, zg, hgc, hgf⟩ := (OQ.owns 4 rfl).some_ (by omega);injection hgq with hgq
              injection hgq with hgq _ _
              subst hgq;have p1 : Wq.cell? ⟨gb, cn, none⟩ = some (.int .i64 vv) := by
                have := hgc cn _ (iG_ (l := s'.brash) (k := cn) (by have := HX.out.2.2.1; omega));rw [this, hvv]; simp [getI]
              have hcI : (0 : Int) ≤ (cn : Int) ∧ (cn : Int) < (N : Int) := by omega
              have hjI : (j : Int) < (pn : Int) := by omega
              have HV := Lib.hid (And.intro hpj hvv);clear OQ hno hWq hcn hpj hvv hgc hgf m0 x4 zx zsb;go_upto_region 13 with fail
              go_quiet (fail);obtain ⟨W4, hW4⟩ : ∃ X, X = Wq.drewN nq := ⟨_, rfl⟩;rw [← hW4];have O4 : Own w.heap.size w [.blk pb (.cells (prtV Ac cc Ab cb p) 79), .blk sb (.cells #[.slice (some ⟨gb, 0, none⟩) N c, .slice (some ⟨ub, 0, none⟩) M d] 81), .blk lb (.cells (plnV Al cl As cs l) 85), .blk rb (.cells #[.slice none 0 0, .slice none 0 0] 81), .own 3 1 (some ⟨gb, 0, none⟩) N c (ints s'.brash) [gb], .own 4 1 (some ⟨ub, 0, none⟩) M d (bools s'.busy) [ub], .blk xb (.cells #[.int .i64 ho, .int .i64 bn, .bool bu, .int .i64 dr, .int .i64 mo, .int .i64 tg] 173)] W4 := by rw [hW4]; exact ⟨bKD HQ.out.1.bel _, HQ.out.1.lo, fun a i h => ⟨It.keep (HQ.out.1.get a h) (S := []) ((Keep.refl _ _).drewN _) (by simp) (by simp), (HQ.out.1.at_ a i h).2⟩, HQ.out.1.dis⟩
              have H4 := Lib.hid (And.intro O4 hW4);have n0 := (cOH (O4.heap 1 rfl) 0).trans rfl;have n1 := (cOH (O4.heap 1 rfl) 1).trans rfl;have zn := hL_ (O4.heap 1 rfl);have r0 := (cOH (O4.heap 3 rfl) 0).trans rfl;have r1 := (cOH (O4.heap 3 rfl) 1).trans rfl;have w0 := fOH (O4.heap 3 rfl) 0;have w1' := fOH (O4.heap 3 rfl) 1;have zr := hL_ (O4.heap 3 rfl);clear O4 hW4 m0' zsb' x4' zx' p0 p1 zg hpB;by_cases hov : mo < vv
              · have hR8 : R = (k, 8, s') := by
                  rw [HP.out.1, if_pos (any_path_yes (i := j) (by have := HP.out.2.2.2.2.1; omega) (by rw [HV.out.1, ← HV.out.2]; exact hov))]
                have HR8 := Lib.hid hR8;clear hR8;go_wp2_with fail
                have O6 := (H4.out.1).set 3 rfl (((Keep.refl [rb] _).setCell (.inl (by simp)) (.slice (some ⟨gb, 0, none⟩) N c)).setCell (.inl (by simp)) (.slice (some ⟨ub, 0, none⟩) M d)) (hS_ (hS_ ((H4.out.1).heap 3 rfl) 0 (.slice (some ⟨gb, 0, none⟩) N c)) 1 (.slice (some ⟨ub, 0, none⟩) M d));have yy0 := (cOH (O6.heap 3 rfl) 0).trans rfl;have yy1 := (cOH (O6.heap 3 rfl) 1).trans rfl;refine bodyPost_ret (v := .tuple #[.agg #[.slice (some ⟨gb, 0, none⟩) N c, .slice (some ⟨ub, 0, none⟩) M d], .int .i64 k, .int .i64 8]) (by simp [results, Try.results128, go_sem, yy0, yy1]) rfl ?_;rw [HR8.out];exact ⟨O6.bel, .inr ⟨show (8 : Int) ≠ 0 by decide, _, _, _, _, _, _, rfl⟩⟩
              · go_wp2_with fail
                go_roundg (gk - 1);case measure => omega
                case rel =>
                  refine ⟨j + 1, mm + nq, by omega, by go_num, fun i hi => ?_, H4.out.2.trans (by rw [HQ.out.2.2]; simp [World.drewN, Nat.add_assoc])⟩;by_cases e : i = j
                  · subst e; rw [HV.out.1, ← HV.out.2]; exact hov
                  · exact HQ.out.2.1 i (by omega)
            · obtain rfl : j = pn := by omega
              have hR4 : R = callsN p ho (l.calls.drop (k + 1)) (k + 1) ⟨growN p path s'.brash, s'.busy.set bn (!bu)⟩ := by
                rw [HP.out.1, if_neg (by rw [any_path_no (by rw [← HP.out.2.2.2.2.1]; exact hno)]; decide)]
              have HR4 := Lib.hid hR4;clear OQ hno hWq hR4 m0 x4 zx zsb m0' zsb' x4' zx';go_wp2_with fail
              go_loopg [15] (j) (fun g i wi => ∃ (j2 : Nat), g + j2 = j ∧ i = .int .i64 j2 ∧ Own w.heap.size w [.blk pb (.cells (prtV Ac cc Ab cb p) 79), .blk sb (.cells #[.slice (some ⟨gb, 0, none⟩) N c, .slice (some ⟨ub, 0, none⟩) M d] 81), .blk lb (.cells (plnV Al cl As cs l) 85), .blk rb (.cells #[.slice none 0 0, .slice none 0 0] 81), .own 3 1 (some ⟨gb, 0, none⟩) N c (ints (growN p (path.take j2) s'.brash)) [gb], .own 4 1 (some ⟨ub, 0, none⟩) M d (bools s'.busy) [ub], .blk xb (.cells #[.int .i64 ho, .int .i64 bn, .bool bu, .int .i64 dr, .int .i64 mo, .int .i64 tg] 173)] wi)
              case atStart => exact ⟨0, rfl, rfl, HQ.out.1⟩
              case round =>
                obtain ⟨j2, hj2, rfl, hO⟩ := hrel;obtain ⟨Wg, hWg⟩ : ∃ X, X = wr := ⟨_, rfl⟩;subst hWg;have m0 := (cOH (hO.heap 1 rfl) 0).trans rfl;have zsb := hL_ (hO.heap 1 rfl);by_cases hlj : j2 < j
                · obtain ⟨cn, hcn⟩ := Int.eq_ofNat_of_zero_le (HP.out.2.1.2.2 (path[j2]'(by have := HP.out.2.2.2.2.1; omega)) (List.getElem_mem _)).1;have hcN : cn < N := by have := (HP.out.2.1.2.2 (path[j2]'(by have := HP.out.2.2.2.2.1; omega)) (List.getElem_mem _)).2; have := HNM.out.2.1; omega
                  have hpj : path.getD j2 0 = (cn : Int) := by rw [List.getD_eq_getElem?_getD, List.getElem?_eq_getElem (by have := HP.out.2.2.2.2.1; omega)]; exact hcn
                  have hpB : pk < Wg.heap.size := by have := HP.out.2.2.1; have := hO.bel.size; omega
                  have p0 : Wg.cell? ⟨pk, pq + j2, none⟩ = some (.int .i64 cn) := by
                    rw [← hpj]; exact (hO.bel.cell (p := ⟨pk, pq + j2, none⟩) (show pk < w.heap.size by have := HP.out.2.2.1; omega)).trans ((H3.out.bel.cell (p := ⟨pk, pq + j2, none⟩) (show pk < w.heap.size by have := HP.out.2.2.1; omega)).symm.trans (HP.out.2.2.2.1 j2 _ (iG_ (by have := HP.out.2.2.2.2.1; omega))))
                  obtain ⟨bq, hbq⟩ : ∃ b, b = growN p (path.take j2) s'.brash := ⟨_, rfl⟩;rw [← hbq] at hO;have hbql : bq.length = N := by rw [hbq, growN_length]; exact HX.out.2.2.1
                  have hbqd : brR (1000000000 + 600 * k + 100 * (path.take j2).length) bq := by
                    rw [hbq]; exact grow_bd (fun x hx => by have := H0.out.2.2.2.2.1.chf x hx; omega) HX.out.2.2.2.2 (fun y hy => HP.out.2.1.2.2 y (List.mem_of_mem_take hy))
                  have htl : (path.take j2).length ≤ 6 := by have := HNM.out.2.1; rw [List.length_take]; omega
                  obtain ⟨vv, hvv⟩ : ∃ v, v = getI bq cn := ⟨_, rfl⟩;have hv1 := hbqd cn;rw [← hvv] at hv1;obtain ⟨gq, hgq, -, zg, hgc, hgf⟩ := (hO.owns 4 rfl).some_ (by omega);injection hgq with hgq
                  injection hgq with hgq _ _
                  subst hgq;have p1 : Wg.cell? ⟨gb, cn, none⟩ = some (.int .i64 vv) := by
                    have := hgc cn _ (iG_ (l := bq) (k := cn) (by omega));rw [this, hvv]; simp [getI]
                  have fz := hgf cn;obtain ⟨bc, oc, hAc, hbc, hcc⟩ := (H0.out.2.2.1.below (hO.bel.mono hD)).chs.2 (by omega);have hgr0 := hcc _ _ (chcs_get (k := cn) (by have := HNM.out.2.1; omega)).1;obtain ⟨gr, hgr⟩ : ∃ g, g = (ch p (cn : Int)).grow := ⟨_, rfl⟩;have p2 : Wg.cell? ⟨bc, oc + cn * 3, none⟩ = some (.int .i64 gr) := by
                    rw [hgr0, hgr];unfold ch; rw [Int.toNat_natCast, List.getD_eq_getElem?_getD, List.getElem?_eq_getElem (show cn < p.chs.length by have := HNM.out.2.1; omega)]; rfl
                  have hgb := H0.out.2.2.2.2.1.chn (c := (cn : Int)) (by omega) (by have := HNM.out.2.1; omega);rw [← hgr] at hgb;have m1 := (cOH (hO.heap 0 rfl) 0).trans rfl;rw [show (prtV Ac cc Ab cb p)[0]? = some (.slice (some ⟨bc, oc, none⟩) N cc) from by rw [← hAc, HNM.out.2.1]; rfl] at m1;have zpb := hL_ (hO.heap 0 rfl);have zbc : bc < Wg.heap.size := by have := hO.lo; omega
                  have hcI : (0 : Int) ≤ (cn : Int) ∧ (cn : Int) < (N : Int) := by omega
                  have hjI : (j2 : Int) < (j : Int) := by omega
                  have HI := Lib.hid (And.intro hO (And.intro hbq (And.intro hvv (And.intro hgr hpj))));clear hO hbq hvv hgr hpj hbqd hgc hgf hbql hcn hcc hgr0 hAc;go_upto_region 18 with fail
                  refine wRS (σ := Unit) (by kernel_rfl) (by kernel_rfl) (fun _ jx vx _ => CdgV Wg sb pb pk pq j ck gb bc oc N c cc cn j2 vv gr jx vx) (fun _ ly wx => CdgW Wg sb pb pk pq j ck gb bc oc N c cc cn j2 vv gr ly wx) () ?_ ?_ ?_
                  · exact (by unfold CdgW; rw [if_neg (by simp)])
                  · simp only [AllFrom, Nat.zero_add, Nat.reduceAdd];refine ⟨?_, ?_, ?_, ?_, ?_, ?_, ?_, ?_, ?_, ?_, ?_, ?_, ?_, ?_, ?_, ?_, ?_, ?_, ?_, ?_, ?_, ?_, ?_, ?_, ?_, ?_, trivial⟩
                    · refine sP_ fun sg ly a wr hl hd hW hF => ?_;have et5 := hF.old 5 (by kernel_rfl);simp [Act.eval] at et5;exact ⟨by simpa [CdgW, upd] using hW, .pointer (some ⟨sb, 0, none⟩), by go_simp, rfl⟩
                    · refine sP_ fun sg ly a wr hl hd hW hF => ?_;simp [Region.binds] at hd;have et92 := hF.new 0 92 (by simp [hd]) rfl;simp [CdgV, Act.eval] at et92;have nL := hF.notYet 1 25 hl (by kernel_rfl);have hW' := hW;unfold CdgW at hW';rw [if_neg (by simp [nL])] at hW';subst hW';exact ⟨by unfold CdgW; rw [if_neg (by simp [upd, nL])], _, by go_simp, rfl⟩
                    · refine sP_ fun sg ly a wr hl hd hW hF => ?_;have et13 := hF.old 13 (by kernel_rfl);simp [Act.eval] at et13;exact ⟨by simpa [CdgW, upd] using hW, .slice (some ⟨pk, pq, none⟩) j ck, by go_simp, rfl⟩
                    · refine sP_ fun sg ly a wr hl hd hW hF => ?_;have et15 := hF.old 15 (by kernel_rfl);simp [Act.eval] at et15;exact ⟨by simpa [CdgW, upd] using hW, .int .i64 j2, by go_simp, rfl⟩
                    · refine sP_ fun sg ly a wr hl hd hW hF => ?_;simp [Region.binds] at hd;have et94 := hF.new 2 94 (by simp [hd]) rfl;simp [CdgV, Act.eval] at et94;have et95 := hF.new 3 95 (by simp [hd]) rfl;simp [CdgV, Act.eval] at et95;exact ⟨by simpa [CdgW, upd] using hW, .pointer (some ⟨pk, pq + j2, none⟩), by go_simp, rfl⟩
                    · refine sP_ fun sg ly a wr hl hd hW hF => ?_;simp [Region.binds] at hd;have et96 := hF.new 4 96 (by simp [hd]) rfl;simp [CdgV, Act.eval] at et96;have nL := hF.notYet 5 25 hl (by kernel_rfl);have hW' := hW;unfold CdgW at hW';rw [if_neg (by simp [nL])] at hW';subst hW';exact ⟨by unfold CdgW; rw [if_neg (by simp [upd, nL])], _, by go_simp, rfl⟩
                    · refine sP_ fun sg ly a wr hl hd hW hF => ?_;have et5 := hF.old 5 (by kernel_rfl);simp [Act.eval] at et5;exact ⟨by simpa [CdgW, upd] using hW, .pointer (some ⟨sb, 0, none⟩), by go_simp, rfl⟩
                    · refine sP_ fun sg ly a wr hl hd hW hF => ?_;simp [Region.binds] at hd;have et98 := hF.new 6 98 (by simp [hd]) rfl;simp [CdgV, Act.eval] at et98;have nL := hF.notYet 7 25 hl (by kernel_rfl);have hW' := hW;unfold CdgW at hW';rw [if_neg (by simp [nL])] at hW';subst hW';exact ⟨by unfold CdgW; rw [if_neg (by simp [upd, nL])], _, by go_simp, rfl⟩
                    · refine sP_ fun sg ly a wr hl hd hW hF => ?_;have et13 := hF.old 13 (by kernel_rfl);simp [Act.eval] at et13;exact ⟨by simpa [CdgW, upd] using hW, .slice (some ⟨pk, pq, none⟩) j ck, by go_simp, rfl⟩
                    · refine sP_ fun sg ly a wr hl hd hW hF => ?_;have et15 := hF.old 15 (by kernel_rfl);simp [Act.eval] at et15;exact ⟨by simpa [CdgW, upd] using hW, .int .i64 j2, by go_simp, rfl⟩
                    · refine sP_ fun sg ly a wr hl hd hW hF => ?_;simp [Region.binds] at hd;have et100 := hF.new 8 100 (by simp [hd]) rfl;simp [CdgV, Act.eval] at et100;have et101 := hF.new 9 101 (by simp [hd]) rfl;simp [CdgV, Act.eval] at et101;exact ⟨by simpa [CdgW, upd] using hW, .pointer (some ⟨pk, pq + j2, none⟩), by go_simp, rfl⟩
                    · refine sP_ fun sg ly a wr hl hd hW hF => ?_;simp [Region.binds] at hd;have et102 := hF.new 10 102 (by simp [hd]) rfl;simp [CdgV, Act.eval] at et102;have nL := hF.notYet 11 25 hl (by kernel_rfl);have hW' := hW;unfold CdgW at hW';rw [if_neg (by simp [nL])] at hW';subst hW';exact ⟨by unfold CdgW; rw [if_neg (by simp [upd, nL])], _, by go_simp, rfl⟩
                    · refine sP_ fun sg ly a wr hl hd hW hF => ?_;simp [Region.binds] at hd;have et99 := hF.new 7 99 (by simp [hd]) rfl;simp [CdgV, Act.eval] at et99;have et103 := hF.new 11 103 (by simp [hd]) rfl;simp [CdgV, Act.eval] at et103;exact ⟨by simpa [CdgW, upd] using hW, .pointer (some ⟨gb, cn, none⟩), by go_simp, rfl⟩
                    · refine sP_ fun sg ly a wr hl hd hW hF => ?_;simp [Region.binds] at hd;have et104 := hF.new 12 104 (by simp [hd]) rfl;simp [CdgV, Act.eval] at et104;have nL := hF.notYet 13 25 hl (by kernel_rfl);have hW' := hW;unfold CdgW at hW';rw [if_neg (by simp [nL])] at hW';subst hW';exact ⟨by unfold CdgW; rw [if_neg (by simp [upd, nL])], _, by go_simp, rfl⟩
                    · refine sP_ fun sg ly a wr hl hd hW hF => ?_;have et4 := hF.old 4 (by kernel_rfl);simp [Act.eval] at et4;exact ⟨by simpa [CdgW, upd] using hW, .pointer (some ⟨pb, 0, none⟩), by go_simp, rfl⟩
                    · refine sP_ fun sg ly a wr hl hd hW hF => ?_;simp [Region.binds] at hd;have et106 := hF.new 14 106 (by simp [hd]) rfl;simp [CdgV, Act.eval] at et106;have nL := hF.notYet 15 25 hl (by kernel_rfl);have hW' := hW;unfold CdgW at hW';rw [if_neg (by simp [nL])] at hW';subst hW';exact ⟨by unfold CdgW; rw [if_neg (by simp [upd, nL])], _, by go_simp, rfl⟩
                    · refine sP_ fun sg ly a wr hl hd hW hF => ?_;have et13 := hF.old 13 (by kernel_rfl);simp [Act.eval] at et13;exact ⟨by simpa [CdgW, upd] using hW, .slice (some ⟨pk, pq, none⟩) j ck, by go_simp, rfl⟩
                    · refine sP_ fun sg ly a wr hl hd hW hF => ?_;have et15 := hF.old 15 (by kernel_rfl);simp [Act.eval] at et15;exact ⟨by simpa [CdgW, upd] using hW, .int .i64 j2, by go_simp, rfl⟩
                    · refine sP_ fun sg ly a wr hl hd hW hF => ?_;simp [Region.binds] at hd;have et108 := hF.new 16 108 (by simp [hd]) rfl;simp [CdgV, Act.eval] at et108;have et109 := hF.new 17 109 (by simp [hd]) rfl;simp [CdgV, Act.eval] at et109;exact ⟨by simpa [CdgW, upd] using hW, .pointer (some ⟨pk, pq + j2, none⟩), by go_simp, rfl⟩
                    · refine sP_ fun sg ly a wr hl hd hW hF => ?_;simp [Region.binds] at hd;have et110 := hF.new 18 110 (by simp [hd]) rfl;simp [CdgV, Act.eval] at et110;have nL := hF.notYet 19 25 hl (by kernel_rfl);have hW' := hW;unfold CdgW at hW';rw [if_neg (by simp [nL])] at hW';subst hW';exact ⟨by unfold CdgW; rw [if_neg (by simp [upd, nL])], _, by go_simp, rfl⟩
                    · refine sP_ fun sg ly a wr hl hd hW hF => ?_;simp [Region.binds] at hd;have et107 := hF.new 15 107 (by simp [hd]) rfl;simp [CdgV, Act.eval] at et107;have et111 := hF.new 19 111 (by simp [hd]) rfl;simp [CdgV, Act.eval] at et111;exact ⟨by simpa [CdgW, upd] using hW, .pointer (some ⟨bc, oc + cn * 3, none⟩), by go_simp, rfl⟩
                    · refine sP_ fun sg ly a wr hl hd hW hF => ?_;simp [Region.binds] at hd;have et112 := hF.new 20 112 (by simp [hd]) rfl;simp [CdgV, Act.eval] at et112;exact ⟨by simpa [CdgW, upd] using hW, .pointer (some ⟨bc, oc + cn * 3, none⟩), by go_simp, rfl⟩
                    · refine sP_ fun sg ly a wr hl hd hW hF => ?_;simp [Region.binds] at hd;have et113 := hF.new 21 113 (by simp [hd]) rfl;simp [CdgV, Act.eval] at et113;have nL := hF.notYet 22 25 hl (by kernel_rfl);have hW' := hW;unfold CdgW at hW';rw [if_neg (by simp [nL])] at hW';subst hW';exact ⟨by unfold CdgW; rw [if_neg (by simp [upd, nL])], _, by go_simp, rfl⟩
                    · refine sP_ fun sg ly a wr hl hd hW hF => ?_;simp [Region.binds] at hd;have et105 := hF.new 13 105 (by simp [hd]) rfl;simp [CdgV, Act.eval] at et105;have et114 := hF.new 22 114 (by simp [hd]) rfl;simp [CdgV, Act.eval] at et114;have ew := IntWalk.i64_in (vv + gr) (by omega);exact ⟨by simpa [CdgW, upd] using hW, .int .i64 (vv + gr), by go_simp, rfl⟩
                    · refine sP_ fun sg ly a wr hl hd hW hF => ?_;simp [Region.binds] at hd;have et93 := hF.new 1 93 (by simp [hd]) rfl;simp [CdgV, Act.eval] at et93;have et97 := hF.new 5 97 (by simp [hd]) rfl;simp [CdgV, Act.eval] at et97;exact ⟨by simpa [CdgW, upd] using hW, .pointer (some ⟨gb, cn, none⟩), by go_simp, rfl⟩
                    · refine sS_ rfl fun sg ly a wr hl hd hW hF => ?_;simp [Region.binds] at hd;have et116 := hF.new 24 116 (by simp [hd]) rfl;simp [CdgV, Act.eval] at et116;have et115 := hF.new 23 115 (by simp [hd]) rfl;simp [CdgV, Act.eval] at et115;have hW' := hW;unfold CdgW at hW';rw [if_neg (by simp [hl])] at hW';subst hW';refine ⟨(Wg.setCell ⟨gb, cn, none⟩ (.int .i64 (vv + gr))).drew, (), .skip, by go_simp, .inl rfl, by unfold CdgW; rw [if_pos (by simp [upd])], fun _ _ _ h => h⟩
                  intro _ a w3 hWW hF;obtain ⟨f3, hf3, rfl⟩ := hF.lit;have hw3 : w3 = (Wg.setCell ⟨gb, cn, none⟩ (.int .i64 (vv + gr))).drew := by
                    have h5 := hWW;unfold CdgW at h5
                    rwa [if_pos (by simp)] at h5
                  clear hf3 hF hWW;simp only [List.filterMap, List.foldl, List.setIfInBounds_toArray, List.set_cons_succ, List.set_cons_zero];have O5 : Own w.heap.size w [.blk pb (.cells (prtV Ac cc Ab cb p) 79), .blk sb (.cells #[.slice (some ⟨gb, 0, none⟩) N c, .slice (some ⟨ub, 0, none⟩) M d] 81), .blk lb (.cells (plnV Al cl As cs l) 85), .blk rb (.cells #[.slice none 0 0, .slice none 0 0] 81), .own 3 1 (some ⟨gb, 0, none⟩) N c (ints (growN p (path.take (j2 + 1)) s'.brash)) [gb], .own 4 1 (some ⟨ub, 0, none⟩) M d (bools s'.busy) [ub], .blk xb (.cells #[.int .i64 ho, .int .i64 bn, .bool bu, .int .i64 dr, .int .i64 mo, .int .i64 tg] 173)] w3 := by
                    rw [hw3];refine (HI.out.1.upd 4 rfl ((Keep.refl [gb] Wg).setCell (.inl (by simp)) (.int .i64 (vv + gr))) (i' := .own 3 1 (some ⟨gb, 0, none⟩) N c (ints (growN p (path.take (j2 + 1)) s'.brash)) [gb]) ?_ (fun x hx => .inl hx)).drew;show OwnS _ _ _ _ _ _ _ _;have e : growN p (path.take (j2 + 1)) s'.brash = setI bq cn (vv + gr) := by
                      rw [growN_succ (by have := HP.out.2.2.2.2.1; omega), ← HI.out.2.1, HI.out.2.2.2.2, ← HI.out.2.2.1, ← HI.out.2.2.2.1]
                    rw [e, ← ints_set];exact (HI.out.1.owns 4 rfl).set1 cn hcN _
                  have H5 := Lib.hid O5;clear hw3 O5 m0 m1 p0 p1 p2 zsb zpb zbc fz zg hpB;go_wp2_with fail
                  go_roundg (gk - 1);case measure => omega
                  case rel => exact ⟨j2 + 1, by omega, by go_num, H5.out⟩
                · obtain rfl : j2 = j := by omega
                  have e : growN p (path.take j2) s'.brash = growN p path s'.brash := by rw [HP.out.2.2.2.2.1, List.take_length]
                  rw [e] at hO;have m1 := (cOH (hO.heap 1 rfl) 1).trans rfl;have x1 := (cOH (hO.heap 6 rfl) 1).trans rfl;have x2 := (cOH (hO.heap 6 rfl) 2).trans rfl;have zx := hL_ (hO.heap 6 rfl);obtain ⟨uq, huq, -, zu2, huc, huf⟩ := (hO.owns 5 rfl).some_ (by omega);injection huq with huq
                  injection huq with huq _ _
                  subst huq;have m2 := huc bn _ (bools_get (l := s'.busy) (k := bn) (by have := HX.out.2.2.2.1; omega));have fz := huf bn;have O5 : Own w.heap.size w [.blk pb (.cells (prtV Ac cc Ab cb p) 79), .blk sb (.cells #[.slice (some ⟨gb, 0, none⟩) N c, .slice (some ⟨ub, 0, none⟩) M d] 81), .blk lb (.cells (plnV Al cl As cs l) 85), .blk rb (.cells #[.slice none 0 0, .slice none 0 0] 81), .own 3 1 (some ⟨gb, 0, none⟩) N c (ints (growN p path s'.brash)) [gb], .own 4 1 (some ⟨ub, 0, none⟩) M d (bools (s'.busy.set bn (!bu))) [ub]] (Wg.setCell ⟨ub, bn, none⟩ (.bool (!bu))) := by
                    refine (hO.upd 5 rfl ((Keep.refl [ub] Wg).setCell (.inl (by simp)) (.bool (!bu))) (i' := .own 4 1 (some ⟨ub, 0, none⟩) M d (bools (s'.busy.set bn (!bu))) [ub]) ?_ (fun x hx => .inl hx)).take 6;show OwnS _ _ _ _ _ _ _ _;rw [← bools_set];exact (hO.owns 5 rfl).set1 bn hbn _
                  have hbd2 : brR (1000000000 + 600 * ((k + 1 : Nat) : Int)) (growN p path s'.brash) := by
                    have h := grow_bd (p := p) (fun x hx => by have := H0.out.2.2.2.2.1.chf x hx; omega) HX.out.2.2.2.2 (fun y hy => HP.out.2.1.2.2 y hy);have h6 := HP.out.2.2.2.2.1;have h7 := HNM.out.2.1;intro c; have := h c; omega
                  have H5 := Lib.hid (And.intro O5 hbd2);clear hO O5 hbd2 huc huf e m0;go_wp2_with fail
                  go_roundg (G1 - 1);case measure => omega
                  case rel => exact ⟨k + 1, ⟨growN p path s'.brash, s'.busy.set bn (!bu)⟩, by omega, by go_num, H5.out.1, HR4.out, by simp only [growN_length]; exact HX.out.2.2.1, by simp only [List.length_set]; exact HX.out.2.2.2.1, H5.out.2⟩
        · have hR9 : R = (k, 9, s') := by rw [HR2.out.1, if_pos hbo]
          have HR9 := Lib.hid hR9;clear hR9;cases bu
          · cases ou
            · exact absurd rfl hbo
            · go_wp2_with fail
              have O6 := (H3.out).set 3 rfl (((Keep.refl [rb] _).setCell (.inl (by simp)) (.slice (some ⟨gb, 0, none⟩) N c)).setCell (.inl (by simp)) (.slice (some ⟨ub, 0, none⟩) M d)) (hS_ (hS_ ((H3.out).heap 3 rfl) 0 (.slice (some ⟨gb, 0, none⟩) N c)) 1 (.slice (some ⟨ub, 0, none⟩) M d));have yy0 := (cOH (O6.heap 3 rfl) 0).trans rfl;have yy1 := (cOH (O6.heap 3 rfl) 1).trans rfl;refine bodyPost_ret (v := .tuple #[.agg #[.slice (some ⟨gb, 0, none⟩) N c, .slice (some ⟨ub, 0, none⟩) M d], .int .i64 k, .int .i64 9]) (by simp [results, Try.results128, go_sem, yy0, yy1]) rfl ?_;rw [HR9.out];exact ⟨O6.bel, .inr ⟨show (9 : Int) ≠ 0 by decide, _, _, _, _, _, _, rfl⟩⟩
          · cases ou
            · go_wp2_with fail
              have O6 := (H3.out).set 3 rfl (((Keep.refl [rb] _).setCell (.inl (by simp)) (.slice (some ⟨gb, 0, none⟩) N c)).setCell (.inl (by simp)) (.slice (some ⟨ub, 0, none⟩) M d)) (hS_ (hS_ ((H3.out).heap 3 rfl) 0 (.slice (some ⟨gb, 0, none⟩) N c)) 1 (.slice (some ⟨ub, 0, none⟩) M d));have yy0 := (cOH (O6.heap 3 rfl) 0).trans rfl;have yy1 := (cOH (O6.heap 3 rfl) 1).trans rfl;refine bodyPost_ret (v := .tuple #[.agg #[.slice (some ⟨gb, 0, none⟩) N c, .slice (some ⟨ub, 0, none⟩) M d], .int .i64 k, .int .i64 9]) (by simp [results, Try.results128, go_sem, yy0, yy1]) rfl ?_;rw [HR9.out];exact ⟨O6.bel, .inr ⟨show (9 : Int) ≠ 0 by decide, _, _, _, _, _, _, rfl⟩⟩
            · exact absurd rfl hbo
      · have hne : (ho != h) = true := by simpa using hh
        have hR2 : R = callsN p h (l.calls.drop (k + 1)) (k + 1) s' := by have := HX.out.1; rwa [if_pos hh] at this
        have O5 := H3.out.take 6;have H5 := Lib.hid (And.intro O5 hR2);clear O5 hR2 hh;go_wp2_with fail
        go_roundg (G1 - 1);case measure => omega
        case rel => exact ⟨k + 1, s', by omega, by go_num, H5.out.1, H5.out.2, HX.out.2.2.1, HX.out.2.2.2.1, fun c => by have := HX.out.2.2.2.2 c; omega⟩
    · obtain rfl : k = L := by omega
      have hR0 : R = (k, 0, s') := by rw [hR, HNM.out.1, List.drop_length]; rfl
      have s0 := (cOH (hO.heap 1 rfl) 0).trans rfl;have s1 := (cOH (hO.heap 1 rfl) 1).trans rfl;have zs := hL_ (hO.heap 1 rfl);have r0 := (cOH (hO.heap 3 rfl) 0).trans rfl;have r1 := (cOH (hO.heap 3 rfl) 1).trans rfl;have u0 := fOH (hO.heap 3 rfl) 0;have u1 := fOH (hO.heap 3 rfl) 1;have zr := hL_ (hO.heap 3 rfl);have HE := Lib.hid (And.intro hO (And.intro hR0 (And.intro hl1 hl2)));clear hO hR hR0 hbd;go_wp2_with fail
      have O6 := (HE.out.1).set 3 rfl (((Keep.refl [rb] _).setCell (.inl (by simp)) (.slice (some ⟨gb, 0, none⟩) N c)).setCell (.inl (by simp)) (.slice (some ⟨ub, 0, none⟩) M d)) (hS_ (hS_ ((HE.out.1).heap 3 rfl) 0 (.slice (some ⟨gb, 0, none⟩) N c)) 1 (.slice (some ⟨ub, 0, none⟩) M d));have yy0 := (cOH (O6.heap 3 rfl) 0).trans rfl;have yy1 := (cOH (O6.heap 3 rfl) 1).trans rfl;refine bodyPost_ret (v := .tuple #[.agg #[.slice (some ⟨gb, 0, none⟩) N c, .slice (some ⟨ub, 0, none⟩) M d], .int .i64 0, .int .i64 0]) (by simp [results, Try.results128, go_sem, yy0, yy1]) rfl ?_;rw [HE.out.2.1];refine ⟨O6.bel, .inl ⟨rfl, some ⟨gb, 0, none⟩, c, [gb], some ⟨ub, 0, none⟩, d, [ub], by simp only [sttV, HE.out.2.2.1, HE.out.2.2.2], ?_, ?_, fun x hx => O6.ge 4 rfl (x := x) hx, fun x hx => O6.ge 5 rfl (x := x) hx, fun x hx hx2 => O6.dis 4 5 _ _ rfl rfl (by decide) x hx hx2⟩⟩
      · simp only [HE.out.2.2.1]; exact O6.owns 4 rfl
      · simp only [HE.out.2.2.2]; exact O6.owns 5 rfl
end Go.Proofs.Ythmldeningpjbaa
