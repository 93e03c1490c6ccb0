import Derived.Test.YthmldeningpjbaaPRp18
import Derived.Test.YthmldeningpjbaaPRp6
set_option linter.unusedVariables false
set_option linter.unusedSimpArgs false
set_option maxRecDepth 100000
set_option maxHeartbeats 40000000
namespace Go.Proofs.Ythmldeningpjbaa
open Go Go.RowKit Sp Pt
def swK (p : Prt) (b : List Int) (x : Swp) (k : Nat) : List Int := if k = 0 then b else setI b x.channel (max 0 (getI b x.channel - k * (ch p x.channel).clear))
theorem swK_len (p : Prt) (b : List Int) (x : Swp) (k : Nat) : (swK p b x k).length = b.length := by unfold swK; split <;> simp [setI]
theorem getI_setI_self {b : List Int} {c x : Int} (h0 : 0 ≤ c) (h1 : c < b.length) : getI (setI b c x) c = x := by
  simp only [getI, setI];rw [List.getD_eq_getElem?_getD, List.getElem?_set, if_pos rfl, if_pos (by omega)]; rfl
theorem setI_setI (b : List Int) (c x y : Int) : setI (setI b c x) c y = setI b c y := by simp only [setI, List.set_set]
theorem swK_succ {p : Prt} {b : List Int} {x : Swp} {k : Nat} (h0 : 0 ≤ x.channel) (h1 : x.channel < b.length) (hc : 0 ≤ (ch p x.channel).clear) :
    swK p b x (k + 1) = setI (swK p b x k) x.channel (max 0 (getI (swK p b x k) x.channel - (ch p x.channel).clear)) := by
  unfold swK;rw [if_neg (by omega)];by_cases h : k = 0
  · subst h; rw [if_pos rfl]; simp
  · rw [if_neg h, setI_setI, getI_setI_self h0 h1]
    congr 1
    have e : ((k + 1 : Nat) : Int) * (ch p x.channel).clear = (k : Int) * (ch p x.channel).clear + (ch p x.channel).clear := by push_cast; rw [Int.add_mul, Int.one_mul]
    rw [e];omega
theorem swK_all {p : Prt} {h : Int} {b : List Int} {x : Swp} {k : Nat} (hh : x.hour = h) (hk : (k : Int) = x.tugs) (h1 : 1 ≤ x.tugs) : swK p b x k = swp1 p h b x := by
  unfold swK swp1;rw [if_neg (by omega), if_pos hh, hk]
theorem swp1_ne {p : Prt} {h : Int} {b : List Int} {x : Swp} (hh : ¬ x.hour = h) : swp1 p h b x = b := by unfold swp1; rw [if_neg hh]
def brS (p : Prt) (l : Pln) (h : Int) (b : List Int) (i : Nat) : List Int := swpN p h (l.swps.take i) b
theorem brS_succ {p : Prt} {l : Pln} {h : Int} {b : List Int} {i : Nat} (hi : i < l.swps.length) : brS p l h b (i + 1) = swp1 p h (brS p l h b i) l.swps[i] := by
  unfold brS swpN; rw [List.take_succ_eq_append_getElem hi, List.foldl_append]; rfl
theorem brS_len (p : Prt) (l : Pln) (h : Int) (b : List Int) (i : Nat) : (brS p l h b i).length = b.length := swpN_length p h _ b
theorem swK_bd {p : Prt} {B : Int} {b : List Int} {x : Swp} {k : Nat} (hb : brR B b) (hx : 0 ≤ x.channel) (hc : 0 ≤ (ch p x.channel).clear) : brR B (swK p b x k) := by
  unfold swK;split
  · exact hb
  · refine brR_set hb hx ?_;have := hb x.channel;have h2 : 0 ≤ (k : Int) * (ch p x.channel).clear := Int.mul_nonneg (by omega) hc;omega
theorem ints_set (b : List Int) (c : Nat) (y : Int) : (ints b).set c (.int .i64 y) = ints (setI b c y) := by simp [ints, setI, List.map_set]
def SwgV (W0 : World) (sb xb pb gb bc oc n c1 cc cn : Nat) (vv clr y : Int) : Nat → Value → Prop
  | 0, v => v = .pointer (some ⟨sb, 0, none⟩)
  | 1, v => v = .slice (some ⟨gb, 0, none⟩) n c1
  | 2, v => v = .pointer (some ⟨xb, 1, none⟩)
  | 3, v => v = .int .i64 cn
  | 4, v => v = .pointer (some ⟨sb, 0, none⟩)
  | 5, v => v = .slice (some ⟨gb, 0, none⟩) n c1
  | 6, v => v = .pointer (some ⟨xb, 1, none⟩)
  | 7, v => v = .int .i64 cn
  | 8, v => v = .pointer (some ⟨gb, cn, none⟩)
  | 9, v => v = .int .i64 vv
  | 10, v => v = .pointer (some ⟨pb, 0, none⟩)
  | 11, v => v = .slice (some ⟨bc, oc, none⟩) n cc
  | 12, v => v = .pointer (some ⟨xb, 1, none⟩)
  | 13, v => v = .int .i64 cn
  | 14, v => v = .pointer (some ⟨bc, oc + cn * 3, none⟩)
  | 15, v => v = .pointer (some ⟨bc, oc + cn * 3 + 2, none⟩)
  | 16, v => v = .int .i64 clr
  | 17, v => v = .int .i64 (vv - clr)
  | 18, v => v = .int .i64 y
  | 19, v => v = .pointer (some ⟨gb, cn, none⟩)
  | _, _ => True
def SwgW (W0 : World) (sb xb pb gb bc oc n c1 cc cn : Nat) (vv clr y : Int) (l : Nat → Bool) (w : World) : Prop := if l 20 then w = (W0.setCell ⟨gb, cn, none⟩ (.int .i64 y)).drew else w = W0.drew
theorem swept_any (D : Nat) (Ac : Option Addr) (cc : Nat) (Ab : Option Addr) (cb : Nat) (p : Prt) (Ar : Option Addr) (cr : Nat) (Au : Option Addr) (cu : Nat) (s : Stt) (Al : Option Addr) (cl : Nat) (As : Option Addr) (cs : Nat) (l : Pln) (h : Int) (w : World)
    (PB : PrtB D w Ac cc Ab cb p) (SB : SttB D w Ar cr Au cu s) (LB : PlnB D w Al cl As cs l) (hD : D ≤ w.heap.size) (v : Val p l) (hn : s.brash.length = p.chs.length) (hm : s.busy.length = p.bts.length) (hbr : brR 100000000000 s.brash) :
    Calls Try.prog 112 #[.agg (prtV Ac cc Ab cb p), .agg (sttV Ar cr Au cu s), .agg (plnV Al cl As cs l), .int .i64 h] w (NewStO w ⟨swpN p h l.swps s.brash, s.busy⟩) := by
  obtain ⟨pb, hpb⟩ : ∃ b, b = w.heap.size := ⟨_, rfl⟩;obtain ⟨sb, hsb⟩ : ∃ b, b = w.heap.size + 1 := ⟨_, rfl⟩;obtain ⟨lb, hlb⟩ : ∃ b, b = w.heap.size + 1 + 1 := ⟨_, rfl⟩;obtain ⟨rb, hrb⟩ : ∃ b, b = w.heap.size + 1 + 1 + 1 := ⟨_, rfl⟩;obtain ⟨W, hW⟩ : ∃ W, W = (((w.alloc (.cells (prtV Ac cc Ab cb p) 79)).alloc (.cells (sttV Ar cr Au cu s) 81)).alloc (.cells (plnV Al cl As cs l) 85)).alloc (.cells #[.slice none 0 0, .slice none 0 0] 81) := ⟨_, rfl⟩;have O0 : Own w.heap.size w [.blk pb (.cells (prtV Ac cc Ab cb p) 79), .blk sb (.cells (sttV Ar cr Au cu s) 81), .blk lb (.cells (plnV Al cl As cs l) 85), .blk rb (.cells #[.slice none 0 0, .slice none 0 0] 81)] W := by
    have h := (((((Own.start w).alloc (.cells (prtV Ac cc Ab cb p) 79)).alloc (.cells (sttV Ar cr Au cu s) 81)).alloc (.cells (plnV Al cl As cs l) 85)).alloc (.cells #[.slice none 0 0, .slice none 0 0] 81));rw [hW, hpb, hsb, hlb, hrb];simpa using h
  have hnc := v.nc;have hnb := v.nb;have kc := copied_any D Ar cr Au cu s W (SB.below (O0.bel.mono hD)) (Nat.le_trans hD O0.bel.size) (by omega);have c0 := (cOH (O0.heap 1 rfl) 0).trans rfl;have c1 := (cOH (O0.heap 1 rfl) 1).trans rfl;have zs := hL_ (O0.heap 1 rfl);have hcap := And.intro PB.c1 (And.intro LB.c2 SB.c1);have H0 := Lib.hid (And.intro O0 (And.intro kc (And.intro PB (And.intro LB (And.intro v (And.intro hn (And.intro hm hbr)))))));clear O0 kc PB LB v hn hm hbr SB
  go_enter Try.func112, Try.ntmps112
  go_upto_region 1 with fail
  rw [← hW, ← hrb, ← hlb, ← hsb, ← hpb];clear hW hrb hlb hsb hpb;go_upto_region 2 with (go_at_call 127; refine H0.out.2.1.mono ?_; rintro e w1 ⟨A, c, q1, B, d, q2, rfl, o1, o2, f1, f2, f3, hb⟩; have O1 := H0.out.1.below hb; have t0 := (cOH (O1.heap 1 rfl) 0).trans rfl; have t1 := (cOH (O1.heap 1 rfl) 1).trans rfl; have u0 := fOH (O1.heap 1 rfl) 0; have u1 := fOH (O1.heap 1 rfl) 1; have zs1 := hL_ (O1.heap 1 rfl); have H1 := Lib.hid (And.intro O1 (And.intro o1 (And.intro o2 (And.intro f1 (And.intro f2 (And.intro f3 hb)))))); clear c0 c1 zs O1 o1 o2 f1 f2 f3 hb)
  obtain ⟨O1, o1, o2, f1, f2, f3, hb⟩ := H1.out;obtain ⟨w2, hw2⟩ : ∃ X, X = (w1.setCell ⟨sb, 0, none⟩ (.slice A s.brash.length c)).setCell ⟨sb, 1, none⟩ (.slice B s.busy.length d) := ⟨_, rfl⟩;rw [← hw2];have hW0 := H0.out.1.lo;have zlt : ∀ k x, k < 4 → (∃ o, [It.blk pb (.cells (prtV Ac cc Ab cb p) 79), .blk sb (.cells (sttV Ar cr Au cu s) 81), .blk lb (.cells (plnV Al cl As cs l) 85), .blk rb (.cells #[.slice none 0 0, .slice none 0 0] 81)][k]? = some (.blk x o)) → x < W.heap.size := fun k x _ ⟨o, ho⟩ => H0.out.1.lt k ho (x := x) (by simp [It.fp]);have O2 : Own w.heap.size w [.blk pb (.cells (prtV Ac cc Ab cb p) 79), .blk sb (.cells (sttV A c B d s) 81), .blk lb (.cells (plnV Al cl As cs l) 85), .blk rb (.cells #[.slice none 0 0, .slice none 0 0] 81), .own 3 1 A s.brash.length c (ints s.brash) q1, .own 4 1 B s.busy.length d (bools s.busy) q2] w2 := by
    have z0 := zlt 0 pb (by omega) ⟨_, rfl⟩;have z1 := zlt 1 sb (by omega) ⟨_, rfl⟩;have z2 := zlt 2 lb (by omega) ⟨_, rfl⟩;have z3 := zlt 3 rb (by omega) ⟨_, rfl⟩;have a := O1.add (i := .own 3 1 A s.brash.length c (ints s.brash) q1) o1 (fun x hx => by have := f1 x hx; omega) (by intro j hj x hx hm; have := f1 x hx; simp at hj; rcases hj with rfl | rfl | rfl | rfl <;> simp [It.fp] at hm <;> omega);have b := a.add (i := .own 4 1 B s.busy.length d (bools s.busy) q2) o2 (fun x hx => by have := f2 x hx; omega) (by
      intro j hj x hx hm; have := f2 x hx; simp at hj; rcases hj with rfl | rfl | rfl | rfl | rfl
      · simp [It.fp] at hm; omega
      · simp [It.fp] at hm; omega
      · simp [It.fp] at hm; omega
      · simp [It.fp] at hm; omega
      · exact f3 x hm hx)
    have e := b.set 1 rfl (((Keep.refl [sb] w1).setCell (.inl (by simp)) (.slice A s.brash.length c)).setCell (.inl (by simp)) (.slice B s.busy.length d)) (hS_ (hS_ (b.heap 1 rfl) 0 (.slice A s.brash.length c)) 1 (.slice B s.busy.length d));rw [hw2];exact e
  obtain ⟨gb, rfl, rfl, -, -, -⟩ := (O2.owns 4 rfl).some_ (by have := H0.out.2.2.2.2.2.1; omega);have H2 := Lib.hid O2;have hcb := (O2.owns 5 rfl).cap;have hca := (O2.owns 4 rfl).cap;clear O1 o1 o2 f1 f2 f3 hb hw2 O2 t0 t1 u0 u1 zs1 hW0 zlt;obtain ⟨M, hM⟩ : ∃ M, M = l.swps.length := ⟨_, rfl⟩;have hMM := H0.out.2.2.2.2.1.nx.2;rw [← hM] at hMM hcap;have HM := Lib.hid hM;clear hM;have e2 := (cOH (H2.out.heap 2 rfl) 2).trans rfl;have zl := hL_ (H2.out.heap 2 rfl);rw [show (plnV Al cl As cs l)[2]? = some (.slice As M cs) from by rw [HM.out]; rfl] at e2;go_wp2_with fail
  clear e2 zl
  go_loopg [9] (M) (fun g i wr => ∃ k : Nat, g + k = M ∧ i = .int .i64 k ∧ Own w.heap.size w [.blk pb (.cells (prtV Ac cc Ab cb p) 79), .blk sb (.cells (sttV (some ⟨gb, 0, none⟩) c B d s) 81), .blk lb (.cells (plnV Al cl As cs l) 85), .blk rb (.cells #[.slice none 0 0, .slice none 0 0] 81), .own 3 1 (some ⟨gb, 0, none⟩) s.brash.length c (ints (brS p l h s.brash k)) [gb], .own 4 1 B s.busy.length d (bools s.busy) q2] wr)
  case atStart => exact ⟨0, rfl, rfl, H2.out⟩
  case round =>
    obtain ⟨k, hk, rfl, hO⟩ := hrel;have e2 := (cOH (hO.heap 2 rfl) 2).trans rfl;have zl := hL_ (hO.heap 2 rfl);rw [show (plnV Al cl As cs l)[2]? = some (.slice As M cs) from by rw [HM.out]; rfl] at e2;by_cases hlt : k < M
    · have hkl : k < l.swps.length := by rw [← HM.out]; exact hlt
      obtain ⟨b, off, hAs, hbD, hcell⟩ := (H0.out.2.2.2.1.below (hO.bel.mono hD)).swps.2 (by omega);obtain ⟨g0, g1, g2⟩ := swcs_get hkl;obtain ⟨x, hx⟩ : ∃ x, x = l.swps[k] := ⟨_, rfl⟩;have hsv := H0.out.2.2.2.2.1.sw x (by rw [hx]; exact List.getElem_mem hkl);have hsucc := brS_succ (p := p) (h := h) (b := s.brash) hkl;rw [← hx] at g0 g1 g2 hsucc;have y0 := hcell _ _ g0;have y1 : wr.cell? ⟨b, off + k * 3 + 1, none⟩ = _ := hcell _ _ g1;have y2 : wr.cell? ⟨b, off + k * 3 + 2, none⟩ = _ := hcell _ _ g2;have zb := World.block_lt_of_cell? _ _ y0;have n2 : (k : Int) < (M : Int) := by omega
      obtain ⟨br, hbr⟩ : ∃ br, br = brS p l h s.brash k := ⟨_, rfl⟩;have hbl : br.length = p.chs.length := by rw [hbr, brS_len]; exact H0.out.2.2.2.2.2.1
      have hbd : brR 100000000000 br := by
        rw [hbr];exact swpN_bd (fun t ht => by have := H0.out.2.2.2.2.1.sw t (List.mem_of_mem_take ht); omega) (fun c hc => by have := H0.out.2.2.2.2.1.chf c hc; omega) H0.out.2.2.2.2.2.2.2
      rw [← hbr] at hO hsucc;have hchn := H0.out.2.2.2.2.1.chn hsv.1 hsv.2.1;have HX := Lib.hid (And.intro hsucc (And.intro hO (And.intro hbl (And.intro hbd hbr))));rw [hAs] at e2;have HAs := Lib.hid hAs;clear hAs hsucc hO hbl hbd hbr hcell g0 g1 g2 hx;go_upto_region 6 with fail
      obtain ⟨W3, hW3⟩ : ∃ X, X = wr.alloc (.cells #[.int .i64 x.hour, .int .i64 x.channel, .int .i64 x.tugs] 174) := ⟨_, rfl⟩;obtain ⟨xb, hxb⟩ : ∃ b, b = wr.heap.size := ⟨_, rfl⟩;have O3 : Own w.heap.size w [.blk pb (.cells (prtV Ac cc Ab cb p) 79), .blk sb (.cells (sttV (some ⟨gb, 0, none⟩) c B d s) 81), .blk lb (.cells (plnV Al cl As cs l) 85), .blk rb (.cells #[.slice none 0 0, .slice none 0 0] 81), .own 3 1 (some ⟨gb, 0, none⟩) s.brash.length c (ints br) [gb], .own 4 1 B s.busy.length d (bools s.busy) q2, .blk xb (.cells #[.int .i64 x.hour, .int .i64 x.channel, .int .i64 x.tugs] 174)] W3 := by have h := HX.out.2.1.alloc (.cells #[.int .i64 x.hour, .int .i64 x.channel, .int .i64 x.tugs] 174); rw [hW3, hxb]; simpa using h
      rw [← hW3, ← hxb];have H3 := Lib.hid O3;have hc4 := (O3.owns 4 rfl).ge;clear hW3 hxb O3 e2 zl y0 y1 y2 zb;obtain ⟨G1, rfl⟩ : ∃ G, G = gk := ⟨_, rfl⟩;have hx0 := (cOH (H3.out.heap 6 rfl) 0).trans rfl;have hx2 := (cOH (H3.out.heap 6 rfl) 2).trans rfl;have zx := hL_ (H3.out.heap 6 rfl);by_cases hh : x.hour = h
      · have hhb : (h == h) = true := by simp
        subst hh;obtain ⟨T, hT⟩ := Int.eq_ofNat_of_zero_le (show 0 ≤ x.tugs by omega);obtain ⟨cn, hcn⟩ := Int.eq_ofNat_of_zero_le hsv.1;have hTb : 1 ≤ T ∧ T ≤ 20 := by omega
        rw [hT] at hx2;obtain ⟨bc, oc, hAc, hbc, hcc⟩ := H0.out.2.2.1.chs.2 (by omega);have hcl : w.cell? ⟨bc, oc + cn * 3 + 2, none⟩ = some (.int .i64 (ch p x.channel).clear) := by
          have hcl0 : cn < p.chs.length := by omega
          have e := hcc _ _ (chcs_get hcl0).2.2;have e3 : ch p x.channel = p.chs[cn] := by unfold ch; rw [hcn, Int.toNat_natCast, List.getD_eq_getElem?_getD, List.getElem?_eq_getElem hcl0]; rfl
          rw [e3];exact e
        have HT := Lib.hid (And.intro hT (And.intro hcn hcl));have HAc := Lib.hid hAc;clear hAc;have hcnn : cn < p.chs.length := by omega
        obtain ⟨clr, hclr⟩ : ∃ c, c = (ch p x.channel).clear := ⟨_, rfl⟩;rw [← hclr] at hchn hcl;have HCL := Lib.hid hclr;clear hT hcn hclr hcl hcc;go_wp2_with fail
        clear hx0 hx2 zx
        go_loopg [11] (T) (fun g i wr => ∃ k : Nat, g + k = T ∧ i = .int .i64 k ∧ Own w.heap.size w [.blk pb (.cells (prtV Ac cc Ab cb p) 79), .blk sb (.cells (sttV (some ⟨gb, 0, none⟩) c B d s) 81), .blk lb (.cells (plnV Al cl As cs l) 85), .blk rb (.cells #[.slice none 0 0, .slice none 0 0] 81), .own 3 1 (some ⟨gb, 0, none⟩) s.brash.length c (ints (swK p br x k)) [gb], .own 4 1 B s.busy.length d (bools s.busy) q2, .blk xb (.cells #[.int .i64 x.hour, .int .i64 x.channel, .int .i64 x.tugs] 174)] wr)
        case atStart => exact ⟨0, rfl, rfl, H3.out⟩
        case round =>
          obtain ⟨k', hk', rfl, hO⟩ := hrel;have hx0 := (cOH (hO.heap 6 rfl) 0).trans rfl;have hx1 := (cOH (hO.heap 6 rfl) 1).trans rfl;have hx2 := (cOH (hO.heap 6 rfl) 2).trans rfl;have zx := hL_ (hO.heap 6 rfl);rw [show (#[Value.int .i64 x.hour, .int .i64 x.channel, .int .i64 x.tugs] : Array Value)[2]? = some (.int .i64 T) from by rw [HT.out.1]; rfl] at hx2;rw [show (#[Value.int .i64 x.hour, .int .i64 x.channel, .int .i64 x.tugs] : Array Value)[1]? = some (.int .i64 cn) from by rw [HT.out.2.1]; rfl] at hx1;by_cases hlt' : k' < T
          · have n3 : (k' : Int) < (T : Int) := by omega
            obtain ⟨n, hn⟩ : ∃ n, n = p.chs.length := ⟨_, rfl⟩;obtain ⟨bq, hbq⟩ : ∃ b, b = swK p br x k' := ⟨_, rfl⟩;have hbql : bq.length = n := by rw [hbq, swK_len, HX.out.2.2.1, hn]
            have hbqd : brR 100000000000 bq := by rw [hbq]; exact swK_bd HX.out.2.2.2.1 hsv.1 (by have := HCL.out; omega)
            rw [← hbq] at hO;obtain ⟨vv, hvv⟩ : ∃ v, v = getI bq cn := ⟨_, rfl⟩;have hv1 := hbqd cn;rw [← hvv] at hv1;obtain ⟨y, hy⟩ : ∃ y, y = max 0 (vv - clr) := ⟨_, rfl⟩;have hmx : (if 0 < vv - clr then vv - clr else 0) = y := by rw [hy]; split <;> omega
            have hmx' : (if clr < vv then vv - clr else 0) = y := by rw [hy]; split <;> omega
            obtain ⟨gq, hgq, hfp, zg, hgc, hgf⟩ := (hO.owns 4 rfl).some_ (by have := H0.out.2.2.2.2.2.1; omega);injection hgq with hgq
            injection hgq with hgq _ _
            subst hgq;have m0 := (cOH (hO.heap 1 rfl) 0).trans rfl;rw [show (sttV (some ⟨gb, 0, none⟩) c B d s)[0]? = some (.slice (some ⟨gb, 0, none⟩) n c) from by rw [hn, ← H0.out.2.2.2.2.2.1]; rfl] at m0;have zsb := hL_ (hO.heap 1 rfl);have m1 := (cOH (hO.heap 0 rfl) 0).trans rfl;rw [show (prtV Ac cc Ab cb p)[0]? = some (.slice (some ⟨bc, oc, none⟩) n cc) from by rw [hn, ← HAc.out]; rfl] at m1;have zpb := hL_ (hO.heap 0 rfl);have m2 : wr.cell? ⟨gb, cn, none⟩ = some (.int .i64 vv) := by
              have := hgc cn _ (iG_ (l := bq) (k := cn) (by omega));rw [this, hvv]; simp [getI]
            have fz := hgf cn;have m3 : wr.cell? ⟨bc, oc + cn * 3 + 2, none⟩ = some (.int .i64 clr) := by
              have := hO.bel.cell (p := ⟨bc, oc + cn * 3 + 2, none⟩) (show bc < w.heap.size by omega);rw [this, HCL.out]; exact HT.out.2.2
            have zbc : bc < wr.heap.size := by have := hO.bel.size; omega
            have hcI : (0 : Int) ≤ (cn : Int) ∧ (cn : Int) < (n : Int) := by omega
            have hq0 : hO.owns 4 rfl = hO.owns 4 rfl := rfl;have HI := Lib.hid (And.intro hO (And.intro hbq (And.intro hvv (And.intro hy hn))));clear hO hbq hvv hy hbqd hgc hgf hfp hq0 hbql hn;obtain ⟨Wq, hWq⟩ : ∃ X, X = wr := ⟨_, rfl⟩;subst hWq;go_upto_region 9 with fail
            refine wRS (σ := Unit) (by kernel_rfl) (by kernel_rfl) (fun _ jx vx _ => SwgV Wq sb xb pb gb bc oc n c cc cn vv clr y jx vx) (fun _ ly wx => SwgW Wq sb xb pb gb bc oc n c cc cn vv clr y ly wx) () ?_ ?_ ?_
            · exact (by unfold SwgW; rw [if_neg (by simp)])
            · simp only [AllFrom, Nat.zero_add, Nat.reduceAdd];refine ⟨?_, ?_, ?_, ?_, ?_, ?_, ?_, ?_, ?_, ?_, ?_, ?_, ?_, ?_, ?_, ?_, ?_, ?_, ?_, ?_, ?_, trivial⟩
              · refine sP_ fun sg ly a wr hl hd hW hF => ?_;have et5 := hF.old 5 (by kernel_rfl);simp [Act.eval] at et5;exact ⟨by simpa [SwgW, upd] using hW, .pointer (some ⟨sb, 0, none⟩), by go_simp, rfl⟩
              · refine sP_ fun sg ly a wr hl hd hW hF => ?_;simp [Region.binds] at hd;have et38 := hF.new 0 38 (by simp [hd]) rfl;simp [SwgV, Act.eval] at et38;have nL := hF.notYet 1 20 hl (by kernel_rfl);have hW' := hW;unfold SwgW at hW';rw [if_neg (by simp [nL])] at hW';subst hW';exact ⟨by unfold SwgW; rw [if_neg (by simp [upd, nL])], _, by go_simp, rfl⟩
              · refine sP_ fun sg ly a wr hl hd hW hF => ?_;have et10 := hF.old 10 (by kernel_rfl);simp [Act.eval] at et10;exact ⟨by simpa [SwgW, upd] using hW, .pointer (some ⟨xb, 1, none⟩), by go_simp, rfl⟩
              · refine sP_ fun sg ly a wr hl hd hW hF => ?_;simp [Region.binds] at hd;have et40 := hF.new 2 40 (by simp [hd]) rfl;simp [SwgV, Act.eval] at et40;have nL := hF.notYet 3 20 hl (by kernel_rfl);have hW' := hW;unfold SwgW at hW';rw [if_neg (by simp [nL])] at hW';subst hW';exact ⟨by unfold SwgW; rw [if_neg (by simp [upd, nL])], _, by go_simp, rfl⟩
              · refine sP_ fun sg ly a wr hl hd hW hF => ?_;have et5 := hF.old 5 (by kernel_rfl);simp [Act.eval] at et5;exact ⟨by simpa [SwgW, upd] using hW, .pointer (some ⟨sb, 0, none⟩), by go_simp, rfl⟩
              · refine sP_ fun sg ly a wr hl hd hW hF => ?_;simp [Region.binds] at hd;have et42 := hF.new 4 42 (by simp [hd]) rfl;simp [SwgV, Act.eval] at et42;have nL := hF.notYet 5 20 hl (by kernel_rfl);have hW' := hW;unfold SwgW at hW';rw [if_neg (by simp [nL])] at hW';subst hW';exact ⟨by unfold SwgW; rw [if_neg (by simp [upd, nL])], _, by go_simp, rfl⟩
              · refine sP_ fun sg ly a wr hl hd hW hF => ?_;have et10 := hF.old 10 (by kernel_rfl);simp [Act.eval] at et10;exact ⟨by simpa [SwgW, upd] using hW, .pointer (some ⟨xb, 1, none⟩), by go_simp, rfl⟩
              · refine sP_ fun sg ly a wr hl hd hW hF => ?_;simp [Region.binds] at hd;have et44 := hF.new 6 44 (by simp [hd]) rfl;simp [SwgV, Act.eval] at et44;have nL := hF.notYet 7 20 hl (by kernel_rfl);have hW' := hW;unfold SwgW at hW';rw [if_neg (by simp [nL])] at hW';subst hW';exact ⟨by unfold SwgW; rw [if_neg (by simp [upd, nL])], _, by go_simp, rfl⟩
              · refine sP_ fun sg ly a wr hl hd hW hF => ?_;simp [Region.binds] at hd;have et43 := hF.new 5 43 (by simp [hd]) rfl;simp [SwgV, Act.eval] at et43;have et45 := hF.new 7 45 (by simp [hd]) rfl;simp [SwgV, Act.eval] at et45;exact ⟨by simpa [SwgW, upd] using hW, .pointer (some ⟨gb, cn, none⟩), by go_simp, rfl⟩
              · refine sP_ fun sg ly a wr hl hd hW hF => ?_;simp [Region.binds] at hd;have et46 := hF.new 8 46 (by simp [hd]) rfl;simp [SwgV, Act.eval] at et46;have nL := hF.notYet 9 20 hl (by kernel_rfl);have hW' := hW;unfold SwgW at hW';rw [if_neg (by simp [nL])] at hW';subst hW';exact ⟨by unfold SwgW; rw [if_neg (by simp [upd, nL])], _, by go_simp, rfl⟩
              · refine sP_ fun sg ly a wr hl hd hW hF => ?_;have et4 := hF.old 4 (by kernel_rfl);simp [Act.eval] at et4;exact ⟨by simpa [SwgW, upd] using hW, .pointer (some ⟨pb, 0, none⟩), by go_simp, rfl⟩
              · refine sP_ fun sg ly a wr hl hd hW hF => ?_;simp [Region.binds] at hd;have et48 := hF.new 10 48 (by simp [hd]) rfl;simp [SwgV, Act.eval] at et48;have nL := hF.notYet 11 20 hl (by kernel_rfl);have hW' := hW;unfold SwgW at hW';rw [if_neg (by simp [nL])] at hW';subst hW';exact ⟨by unfold SwgW; rw [if_neg (by simp [upd, nL])], _, by go_simp, rfl⟩
              · refine sP_ fun sg ly a wr hl hd hW hF => ?_;have et10 := hF.old 10 (by kernel_rfl);simp [Act.eval] at et10;exact ⟨by simpa [SwgW, upd] using hW, .pointer (some ⟨xb, 1, none⟩), by go_simp, rfl⟩
              · refine sP_ fun sg ly a wr hl hd hW hF => ?_;simp [Region.binds] at hd;have et50 := hF.new 12 50 (by simp [hd]) rfl;simp [SwgV, Act.eval] at et50;have nL := hF.notYet 13 20 hl (by kernel_rfl);have hW' := hW;unfold SwgW at hW';rw [if_neg (by simp [nL])] at hW';subst hW';exact ⟨by unfold SwgW; rw [if_neg (by simp [upd, nL])], _, by go_simp, rfl⟩
              · refine sP_ fun sg ly a wr hl hd hW hF => ?_;simp [Region.binds] at hd;have et49 := hF.new 11 49 (by simp [hd]) rfl;simp [SwgV, Act.eval] at et49;have et51 := hF.new 13 51 (by simp [hd]) rfl;simp [SwgV, Act.eval] at et51;exact ⟨by simpa [SwgW, upd] using hW, .pointer (some ⟨bc, oc + cn * 3, none⟩), by go_simp, rfl⟩
              · refine sP_ fun sg ly a wr hl hd hW hF => ?_;simp [Region.binds] at hd;have et52 := hF.new 14 52 (by simp [hd]) rfl;simp [SwgV, Act.eval] at et52;exact ⟨by simpa [SwgW, upd] using hW, .pointer (some ⟨bc, oc + cn * 3 + 2, none⟩), by go_simp, rfl⟩
              · refine sP_ fun sg ly a wr hl hd hW hF => ?_;simp [Region.binds] at hd;have et53 := hF.new 15 53 (by simp [hd]) rfl;simp [SwgV, Act.eval] at et53;have nL := hF.notYet 16 20 hl (by kernel_rfl);have hW' := hW;unfold SwgW at hW';rw [if_neg (by simp [nL])] at hW';subst hW';exact ⟨by unfold SwgW; rw [if_neg (by simp [upd, nL])], _, by go_simp, rfl⟩
              · refine sP_ fun sg ly a wr hl hd hW hF => ?_;simp [Region.binds] at hd;have et47 := hF.new 9 47 (by simp [hd]) rfl;simp [SwgV, Act.eval] at et47;have et54 := hF.new 16 54 (by simp [hd]) rfl;simp [SwgV, Act.eval] at et54;have ew := IntWalk.i64_in (vv - clr) (by omega);exact ⟨by simpa [SwgW, upd] using hW, .int .i64 (vv - clr), by go_simp, rfl⟩
              · refine sP_ fun sg ly a wr hl hd hW hF => ?_;simp [Region.binds] at hd;have et55 := hF.new 17 55 (by simp [hd]) rfl;simp [SwgV, Act.eval] at et55;exact ⟨by simpa [SwgW, upd] using hW, .int .i64 y, by go_simp, rfl⟩
              · refine sP_ fun sg ly a wr hl hd hW hF => ?_;simp [Region.binds] at hd;have et39 := hF.new 1 39 (by simp [hd]) rfl;simp [SwgV, Act.eval] at et39;have et41 := hF.new 3 41 (by simp [hd]) rfl;simp [SwgV, Act.eval] at et41;exact ⟨by simpa [SwgW, upd] using hW, .pointer (some ⟨gb, cn, none⟩), by go_simp, rfl⟩
              · refine sS_ rfl fun sg ly a wr hl hd hW hF => ?_;simp [Region.binds] at hd;have et57 := hF.new 19 57 (by simp [hd]) rfl;simp [SwgV, Act.eval] at et57;have et56 := hF.new 18 56 (by simp [hd]) rfl;simp [SwgV, Act.eval] at et56;have hW' := hW;unfold SwgW at hW';rw [if_neg (by simp [hl])] at hW';subst hW';refine ⟨(Wq.setCell ⟨gb, cn, none⟩ (.int .i64 y)).drew, (), .skip, by go_simp, .inl rfl, by unfold SwgW; rw [if_pos (by simp [upd])], fun _ _ _ h => h⟩
            intro _ a w3 hWW hF;obtain ⟨f3, hf3, rfl⟩ := hF.lit;have hw3 : w3 = (Wq.setCell ⟨gb, cn, none⟩ (.int .i64 y)).drew := by
              have h5 := hWW;unfold SwgW at h5
              rwa [if_pos (by simp)] at h5
            clear hf3 hF hWW;simp only [List.filterMap, List.foldl, List.setIfInBounds_toArray, List.set_cons_succ, List.set_cons_zero];have O5 : Own w.heap.size w [.blk pb (.cells (prtV Ac cc Ab cb p) 79), .blk sb (.cells (sttV (some ⟨gb, 0, none⟩) c B d s) 81), .blk lb (.cells (plnV Al cl As cs l) 85), .blk rb (.cells #[.slice none 0 0, .slice none 0 0] 81), .own 3 1 (some ⟨gb, 0, none⟩) s.brash.length c (ints (swK p br x (k' + 1))) [gb], .own 4 1 B s.busy.length d (bools s.busy) q2, .blk xb (.cells #[.int .i64 x.hour, .int .i64 x.channel, .int .i64 x.tugs] 174)] w3 := by
              rw [hw3];refine (HI.out.1.upd 4 rfl ((Keep.refl [gb] Wq).setCell (.inl (by simp)) (.int .i64 y)) (i' := .own 3 1 (some ⟨gb, 0, none⟩) s.brash.length c (ints (swK p br x (k' + 1))) [gb]) ?_ (fun x hx => .inl hx)).drew;show OwnS _ _ _ _ _ _ _ _;have e : swK p br x (k' + 1) = setI bq cn y := by
                rw [swK_succ hsv.1 (by rw [HX.out.2.2.1]; omega) (by have := HCL.out; omega), ← HI.out.2.1, HT.out.2.1, ← HI.out.2.2.1, HI.out.2.2.2.1, HCL.out, HT.out.2.1]
              rw [e, ← ints_set];exact (HI.out.1.owns 4 rfl).set1 cn (by have := H0.out.2.2.2.2.2.1; omega) _
            have H5 := Lib.hid O5;clear hw3 O5 m0 m1 m2 m3 hx0 hx1 hx2 zx zsb zpb zbc fz;go_wp2_with fail
            go_roundg (gk - 1);case measure => omega
            case rel => exact ⟨k' + 1, by omega, by go_num, H5.out⟩
          · obtain rfl : k' = T := by omega
            have O5 : Own w.heap.size w [.blk pb (.cells (prtV Ac cc Ab cb p) 79), .blk sb (.cells (sttV (some ⟨gb, 0, none⟩) c B d s) 81), .blk lb (.cells (plnV Al cl As cs l) 85), .blk rb (.cells #[.slice none 0 0, .slice none 0 0] 81), .own 3 1 (some ⟨gb, 0, none⟩) s.brash.length c (ints (brS p l x.hour s.brash (k + 1))) [gb], .own 4 1 B s.busy.length d (bools s.busy) q2] wr := by
              have e : brS p l x.hour s.brash (k + 1) = swK p br x k' := by rw [HX.out.1]; exact (swK_all rfl HT.out.1.symm hsv.2.2.1).symm
              rw [e];exact hO.take 6
            have H5 := Lib.hid O5;clear hO O5;go_wp2_with fail
            go_roundg (G1 - 1);case measure => omega
            case rel => exact ⟨k + 1, by omega, by go_num, H5.out⟩
      · have hhb : (x.hour == h) = false := by simpa using hh
        have O5 : Own w.heap.size w [.blk pb (.cells (prtV Ac cc Ab cb p) 79), .blk sb (.cells (sttV (some ⟨gb, 0, none⟩) c B d s) 81), .blk lb (.cells (plnV Al cl As cs l) 85), .blk rb (.cells #[.slice none 0 0, .slice none 0 0] 81), .own 3 1 (some ⟨gb, 0, none⟩) s.brash.length c (ints (brS p l h s.brash (k + 1))) [gb], .own 4 1 B s.busy.length d (bools s.busy) q2] W3 := by
          rw [HX.out.1, swp1_ne hh];exact H3.out.take 6
        have H5 := Lib.hid O5;have htg : 0 < x.tugs := by omega
        clear O5 hh;go_wp2_with fail
        go_loopg [11] (0) (fun g i wi => i = .int .i64 0 ∧ W3 = wi)
        case atStart => exact ⟨rfl, rfl⟩
        case round =>
          obtain ⟨rfl, rfl⟩ := hrel;go_wp2_with fail
          go_roundg (G1 - 1);case measure => omega
          case rel => exact ⟨k + 1, by omega, by go_num, H5.out⟩
    · obtain rfl : k = M := by omega
      have e : brS p l h s.brash k = swpN p h l.swps s.brash := by unfold brS; rw [HM.out, List.take_length]
      rw [e] at hO;have hsl : (swpN p h l.swps s.brash).length = s.brash.length := swpN_length p h _ _;have HE := Lib.hid (And.intro hO hsl);have s0 := (cOH (hO.heap 1 rfl) 0).trans rfl;have s1 := (cOH (hO.heap 1 rfl) 1).trans rfl;have zs := hL_ (hO.heap 1 rfl);have r0 := (cOH (hO.heap 3 rfl) 0).trans rfl;have r1 := (cOH (hO.heap 3 rfl) 1).trans rfl;have u0 := fOH (hO.heap 3 rfl) 0;have u1 := fOH (hO.heap 3 rfl) 1;have zr := hL_ (hO.heap 3 rfl);clear hO hsl e;go_wp2_with fail
      have O6 := HE.out.1.set 3 rfl (((Keep.refl [rb] wr).setCell (.inl (by simp)) (.slice (some ⟨gb, 0, none⟩) s.brash.length c)).setCell (.inl (by simp)) (.slice B s.busy.length d)) (hS_ (hS_ (HE.out.1.heap 3 rfl) 0 (.slice (some ⟨gb, 0, none⟩) s.brash.length c)) 1 (.slice B s.busy.length d));have y0 := (cOH (O6.heap 3 rfl) 0).trans rfl;have y1 := (cOH (O6.heap 3 rfl) 1).trans rfl;refine bodyPost_ret (v := .agg #[.slice (some ⟨gb, 0, none⟩) s.brash.length c, .slice B s.busy.length d]) (by simp [results, Try.results112, go_sem, y0, y1]) rfl ?_;refine ⟨some ⟨gb, 0, none⟩, c, [gb], B, d, q2, by simp only [sttV, HE.out.2], ?_, O6.owns 5 rfl, fun x hx => O6.ge 4 rfl (x := x) hx, fun x hx => O6.ge 5 rfl (x := x) hx, fun x hx hx2 => O6.dis 4 5 _ _ rfl rfl (by decide) x hx hx2, O6.bel⟩;simp only [HE.out.2];exact O6.owns 4 rfl
end Go.Proofs.Ythmldeningpjbaa
