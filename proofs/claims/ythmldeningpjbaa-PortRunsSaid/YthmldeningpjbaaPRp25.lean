import Derived.Test.YthmldeningpjbaaPRp24
import Derived.Test.YthmldeningpjbaaPRp23
import Derived.Test.YthmldeningpjbaaPRp19
import Derived.Test.YthmldeningpjbaaPRp16
import Derived.Test.YthmldeningpjbaaPRp22
import Derived.Test.YthmldeningpjbaaPRp4
set_option linter.unusedVariables false
set_option linter.unusedSimpArgs false
set_option maxRecDepth 100000
set_option maxHeartbeats 40000000
namespace Go.Proofs.Ythmldeningpjbaa.Pt
open Sp
def shutR (p : Prt) (h : Int) (path : List Int) (L : List Cal) : Bool := L.any fun c => decide (c.hour = h) && path.any fun x => decide (x ∈ (bt p c.berth).path)
theorem any_swap (a b : List Int) : (a.any fun x => decide (x ∈ b)) = b.any fun x => decide (x ∈ a) := by
  rw [Bool.eq_iff_iff, List.any_eq_true, List.any_eq_true];constructor
  · rintro ⟨x, h1, h2⟩; exact ⟨x, of_decide_eq_true h2, decide_eq_true h1⟩
  · rintro ⟨x, h1, h2⟩; exact ⟨x, of_decide_eq_true h2, decide_eq_true h1⟩
theorem shutR_eq (p : Prt) (h : Int) (path : List Int) (L : List Cal) : shutR p h path L = shutL p h path L := by
  unfold shutR shutL
  congr 1
  funext c
  rw [any_swap]
theorem shutR_snoc (p : Prt) (h : Int) (path : List Int) (L : List Cal) (c : Cal) : shutR p h path (L ++ [c]) = (shutR p h path L || (decide (c.hour = h) && path.any fun x => decide (x ∈ (bt p c.berth).path))) := by
  unfold shutR; rw [List.any_append]; simp
end Go.Proofs.Ythmldeningpjbaa.Pt
namespace Go.Proofs.Ythmldeningpjbaa
open Go Go.RowKit Go.Lib Sp Pt
theorem NewStO.newStt {w : World} {s : Stt} {e : Ending} {w' : World} (h : NewStO w s e w') : NewStt w s e w' := by
  obtain ⟨A, c, q1, B, d, q2, h1, h2, h3, h4, h5, h6, h7⟩ := h;exact ⟨A, c, B, d, q1 ++ q2, h1, sttH_new h2 h3, fun x hx => by rcases List.mem_append.1 hx with e | e; exact h4 x e; exact h5 x e, h7⟩
theorem lastHi_ge (f : Nat → Bool) : ∀ k, -2 ≤ lastHi (slotS f k)
  | 0 => by show (-2 : Int) ≤ -2; omega
  | k + 1 => by
    rw [slotS_succ];split
    · rw [lastHi_add]; omega
    · exact lastHi_ge f k
structure RsS where
  A1 : Option Addr
  c1 : Nat
  B1 : Option Addr
  d1 : Nat
  q1 : List Nat
  xb : Nat
def Rs17V (Ac : Option Addr) (cc : Nat) (Ab : Option Addr) (cb : Nat) (p : Prt) (Al : Option Addr) (cl : Nat) (As : Option Addr) (cs : Nat) (l : Pln) (g c0 H k N M : Nat) (yA : Option Addr) (yc : Nat) (yB : Option Addr) (yd : Nat) (s : RsS) : Nat → Value → Prop
  | 0, v => v = .agg (prtV Ac cc Ab cb p)
  | 1, v => v = .slice (some ⟨g, 0, none⟩) (H + 1) c0
  | 2, v => v = .int .i64 k
  | 3, v => v = .pointer (some ⟨g, k * 2, none⟩)
  | 4, v => v = .agg #[.slice yA N yc, .slice yB M yd]
  | 5, v => v = .agg (plnV Al cl As cs l)
  | 6, v => v = .int .i64 k
  | 7, v => v = .agg #[.slice s.A1 N s.c1, .slice s.B1 M s.d1]
  | 8, v => v = .pointer (some ⟨s.xb, 0, none⟩)
  | _, _ => True
theorem rSlots_any (D : Nat) (Ac : Option Addr) (cc : Nat) (Ab : Option Addr) (cb : Nat) (p : Prt) (Al : Option Addr) (cl : Nat) (As : Option Addr) (cs : Nat) (l : Pln) (Ar : Option Addr) (cr : Nat) (Au : Option Addr) (cu : Nat) (s : Stt) (be mo tg : Int) (w : World)
    (PB : PrtB D w Ac cc Ab cb p) (LB : PlnB D w Al cl As cs l) (SB : SttB D w Ar cr Au cu s) (hD : D ≤ w.heap.size) :
    Calls Try.prog 58 #[.agg (prtV Ac cc Ab cb p), .agg (sttV Ar cr Au cu s), .agg (plnV Al cl As cs l), .int .i64 be, .int .i64 mo, .int .i64 tg] w (SlotsPost w p s l be mo tg) := by
  obtain ⟨iV0, iV1, iV2, iV3, iV4⟩ := info_parts info_span;obtain ⟨pb, hpb⟩ : ∃ b, b = w.heap.size := ⟨_, rfl⟩;obtain ⟨sb, hsb⟩ : ∃ b, b = w.heap.size + 1 := ⟨_, rfl⟩;obtain ⟨lb, hlb⟩ : ∃ b, b = w.heap.size + 1 + 1 := ⟨_, rfl⟩;obtain ⟨W, hW⟩ : ∃ W, W = ((w.alloc (.cells (prtV Ac cc Ab cb p) 79)).alloc (.cells (sttV Ar cr Au cu s) 81)).alloc (.cells (plnV Al cl As cs l) 85) := ⟨_, rfl⟩;have O0 : Own w.heap.size w [.blk pb (.cells (prtV Ac cc Ab cb p) 79), .blk sb (.cells (sttV Ar cr Au cu s) 81), .blk lb (.cells (plnV Al cl As cs l) 85)] W := by
    have h := ((((Own.start w).alloc (.cells (prtV Ac cc Ab cb p) 79)).alloc (.cells (sttV Ar cr Au cu s) 81)).alloc (.cells (plnV Al cl As cs l) 85));rw [hW, hpb, hsb, hlb];simpa using h
  have hDW : D ≤ W.heap.size := Nat.le_trans hD O0.bel.size;obtain ⟨er, her⟩ : ∃ er, er = startE p s l := ⟨_, rfl⟩;have kb : Calls Try.prog 93 #[.agg (prtV Ac cc Ab cb p), .agg (sttV Ar cr Au cu s), .agg (plnV Al cl As cs l)] W (BegunPost W p s l) := begun_any D Ac cc Ab cb p Ar cr Au cu s Al cl As cs l W (PB.below (O0.bel.mono hD)) (SB.below (O0.bel.mono hD)) (LB.below (O0.bel.mono hD)) hDW;unfold BegunPost at kb;rw [← her] at kb;obtain ⟨H, hH⟩ : ∃ H, H = l.hours.toNat := ⟨_, rfl⟩;have cellsAt : ∀ wx, Own w.heap.size w [.blk pb (.cells (prtV Ac cc Ab cb p) 79), .blk sb (.cells (sttV Ar cr Au cu s) 81), .blk lb (.cells (plnV Al cl As cs l) 85)] wx → wx.cell? ⟨pb, 0, none⟩ = some (.slice Ac p.chs.length cc) ∧ wx.cell? ⟨pb, 1, none⟩ = some (.slice Ab p.bts.length cb) ∧ wx.cell? ⟨pb, 2, none⟩ = some (.int .i64 p.tugs) ∧ wx.cell? ⟨lb, 0, none⟩ = some (.int .i64 l.hours) ∧ wx.cell? ⟨lb, 1, none⟩ = some (.slice Al l.calls.length cl) ∧ wx.cell? ⟨lb, 2, none⟩ = some (.slice As l.swps.length cs) ∧
      wx.cell? ⟨sb, 0, none⟩ = some (.slice Ar s.brash.length cr) ∧ wx.cell? ⟨sb, 1, none⟩ = some (.slice Au s.busy.length cu) ∧ pb < wx.heap.size ∧ sb < wx.heap.size ∧ lb < wx.heap.size := fun wx O => by
    have h0 := O.heap 0 rfl;have h1 := O.heap 1 rfl;have h2 := O.heap 2 rfl;exact ⟨(cOH h0 0).trans rfl, (cOH h0 1).trans rfl, (cOH h0 2).trans rfl, (cOH h2 0).trans rfl, (cOH h2 1).trans rfl, (cOH h2 2).trans rfl, (cOH h1 0).trans rfl, (cOH h1 1).trans rfl, hL_ h0, hL_ h1, hL_ h2⟩
  obtain ⟨g0, g1, g2, g3, g4, g5, g6, g7, y0, y1, y2⟩ := cellsAt W O0;have HG := Lib.hid (And.intro O0 (And.intro cellsAt (And.intro PB (And.intro LB (And.intro SB (And.intro her (And.intro kb (And.intro hD hH))))))));clear O0 cellsAt her kb PB LB SB hDW hD hH
  go_enter Try.func58, Try.ntmps58
  go_upto_region 1 with fail
  rw [← hW, ← hlb, ← hsb, ← hpb];clear hW hlb hsb hpb;go_upto_region 2 with (go_at_call 93; refine HG.out.2.2.2.2.2.2.1.mono ?_; rintro e w1 ⟨rfl, b1⟩; have O1 := Lib.hid (HG.out.1.below b1); clear b1 g0 g1 g2 g3 g4 g5 g6 g7 y0 y1 y2)
  by_cases h0 : er = 0
  · have hst : startE p s l = 0 := HG.out.2.2.2.2.2.1.symm.trans h0;subst h0;obtain ⟨hck, hl1, hl2, hbr⟩ := start_bd hst;have v := val_of hck;have hca : ∀ x ∈ l.calls, 0 ≤ x.tugs ∧ x.tugs ≤ 20 := fun x hx => by
      obtain ⟨_, _, _, h4, _⟩ := checkL_ok hck;have := (callsE_ok h4).1 x hx;omega
    have hpt : 0 ≤ p.tugs ∧ p.tugs ≤ 20 := (checkP_ok (checkL_ok hck).1).tg;obtain ⟨g0, g1, g2, g3, g4, g5, g6, g7, y0, y1, y2⟩ := HG.out.2.1 w1 O1.out;have hD1 : D ≤ w1.heap.size := Nat.le_trans HG.out.2.2.2.2.2.2.2.1 O1.out.bel.size;have ks := states_any D Ac cc Ab cb p Ar cr Au cu s Al cl As cs l w1 (HG.out.2.2.1.below (O1.out.bel.mono HG.out.2.2.2.2.2.2.2.1)) (HG.out.2.2.2.2.1.below (O1.out.bel.mono HG.out.2.2.2.2.2.2.2.1)) (HG.out.2.2.2.1.below (O1.out.bel.mono HG.out.2.2.2.2.2.2.2.1)) hD1 v hl1 hl2 (brR_of (by omega) hbr);have hnb := v.nb;have hEno : (within be 0 ((p.bts.length : Int) - 1) = false ∨ within mo 0 1000000 = false ∨ within tg 0 20 = false) → slotE p s l be mo tg = 1 := fun h => by
      unfold slotE; rw [if_neg (by rw [hst]; simp), if_pos h]
    have HE := Lib.hid hEno;have hHh : l.hours = (H : Int) ∧ 1 ≤ H ∧ H ≤ 100 := by have := v.h; have := HG.out.2.2.2.2.2.2.2.2; omega
    have hH1 := hHh.2;have HS := Lib.hid (And.intro ks (And.intro hst (And.intro hl1 (And.intro hl2 (And.intro v (And.intro hca (And.intro hHh.1 hbr)))))));clear ks hst hl1 hl2 hck v hbr hca hEno hHh hD1;cases z1 : within be 0 ((p.bts.length : Int) - 1)
    · go_wp2_with (go_at_call 102; refine (rin9_any _ _ _ _).mono ?_; rintro e w' ⟨rfl, rfl⟩)
      go_ret2
      exact slots_no (HE.out (.inl z1)) (by decide) O1.out.bel
    · cases z2 : within mo 0 1000000
      · go_wp2_with (go_at_call 102; refine (rin9_any _ _ _ _).mono ?_; rintro e w' ⟨rfl, rfl⟩)
        go_ret2
        exact slots_no (HE.out (.inr (.inl z2))) (by decide) O1.out.bel
      · cases z3 : within tg 0 20
        · go_wp2_with (go_at_call 102; refine (rin9_any _ _ _ _).mono ?_; rintro e w' ⟨rfl, rfl⟩)
          go_ret2
          exact slots_no (HE.out (.inr (.inr z3))) (by decide) O1.out.bel
        · have hEyes : slotE p s l be mo tg = (runR p l s).2 := by
            unfold slotE; rw [if_neg (by rw [HS.out.2.1]; simp), if_neg (by rw [z1, z2, z3]; simp)]
          obtain ⟨q, hq⟩ : ∃ q : Nat, be = q := ⟨be.toNat, by simp [within] at z1; omega⟩;subst hq;have hqb : q < p.bts.length := by simp [within] at z1; omega
          have hqI : (0 : Int) ≤ (q : Int) ∧ (q : Int) < (p.bts.length : Int) := by omega
          have htg : 0 ≤ tg ∧ tg ≤ 20 := by simpa [within] using z3
          have HY := Lib.hid hEyes;clear hEyes HE;by_cases hr : (runR p l s).2 = 0
          · have ks := HS.out.1.mono fun e w' h => h.okQ hr HG.out.2.2.2.2.2.2.2.2.symm;have HR := Lib.hid (And.intro ks hr);clear ks hr;go_upto_region 9 with (first | (go_at_call 102; refine (rin9_any _ _ _ _).mono ?_; rintro e w' ⟨rfl, rfl⟩) | (go_at_call 94; refine HR.out.1.mono ?_; rintro e w2 ⟨g, c0, qs, L, Q, rfl, o1, o2, o3, o4, hb⟩; have HQ := Lib.hid (And.intro o1 (And.intro o2 (And.intro o3 hb))); clear o1 o2 o3 o4 hb g0 g1 g2 g3 g4 g5 g6 g7 y0 y1 y2))
            clear z1 z2 z3;have O2 := O1.out.below HQ.out.2.2.2;have hD2 : D ≤ w2.heap.size := Nat.le_trans HG.out.2.2.2.2.2.2.2.1 O2.bel.size;have PB2 : ∀ wy, Below w2.heap.size w2 wy → PrtB D wy Ac cc Ab cb p := fun wy b => (HG.out.2.2.1.below (O2.bel.mono HG.out.2.2.2.2.2.2.2.1)).below (b.mono hD2);have LB2 : ∀ wy, Below w2.heap.size w2 wy → PlnB D wy Al cl As cs l := fun wy b => (HG.out.2.2.2.1.below (O2.bel.mono HG.out.2.2.2.2.2.2.2.1)).below (b.mono hD2);have hp2 := O2.heap 0 rfl;have hl2' := O2.heap 2 rfl;have cells : ∀ wy, Below w2.heap.size w2 wy → (wy.cell? ⟨pb, 0, none⟩ = some (.slice Ac p.chs.length cc) ∧ wy.cell? ⟨pb, 1, none⟩ = some (.slice Ab p.bts.length cb) ∧ wy.cell? ⟨pb, 2, none⟩ = some (.int .i64 p.tugs) ∧ wy.cell? ⟨lb, 0, none⟩ = some (.int .i64 H) ∧ wy.cell? ⟨lb, 1, none⟩ = some (.slice Al l.calls.length cl) ∧ wy.cell? ⟨lb, 2, none⟩ = some (.slice As l.swps.length cs) ∧ pb < wy.heap.size ∧ lb < wy.heap.size) := fun wy b => by
              have a1 := (b.block _ (hL_ hp2)).trans hp2;have a2 := (b.block _ (hL_ hl2')).trans hl2';refine ⟨(cOH a1 0).trans rfl, (cOH a1 1).trans rfl, (cOH a1 2).trans rfl, ?_, (cOH a2 1).trans rfl, (cOH a2 2).trans rfl, hL_ a1, hL_ a2⟩;rw [← HS.out.2.2.2.2.2.2.1]; exact (cOH a2 0).trans rfl
            obtain ⟨g0, g1, g2, g3, g4, g5, y0, y2⟩ := cells w2 (Below.refl _ _);obtain ⟨b', off', Ak, ck, eB, hbD', e0, e1, hpa⟩ := (PB2 w2 (Below.refl _ _)).bts q hqb;obtain ⟨np, hnp⟩ : ∃ n, n = (p.bts[q]).path.length := ⟨_, rfl⟩;rw [← hnp] at e1;have hpq : (bt p (q : Int)).path = (p.bts[q]).path := by simp [bt, hqb]
            have ze := World.block_lt_of_cell? _ _ e1;simp only at ze;have hbtq := HS.out.2.2.2.2.1.btf (p.bts[q]) (List.getElem_mem _);have hnp0 : 0 < np := by rw [hnp]; exact List.length_pos_iff.2 hbtq.1
            have hnp6 := nodup_range_le hbtq.2.1 hbtq.2.2;have hnc := HS.out.2.2.2.2.1.nc;have hnp7 : np ≤ 6 := by omega
            obtain ⟨bp, op, rfl⟩ : ∃ b o, Ak = some ⟨b, o, none⟩ := by obtain ⟨b, o, e, _⟩ := hpa.1.2 (by omega); exact ⟨b, o, e⟩
            have rpath : ∀ wy, Below w2.heap.size w2 wy → ∀ j (hj : j < np), ∃ i : Nat, i < p.chs.length ∧ (bt p (q : Int)).path[j]? = some (i : Int) ∧ wy.cell? ⟨bp, op + j, none⟩ = some (.int .i64 i) ∧ bp < wy.heap.size := fun wy b j hj => by
              obtain ⟨b9, o9, e9, hb9, hc9⟩ := (hpa.below (b.mono hD2)).1.2 (by omega);injection e9 with e9
              injection e9 with ea eb _
              subst ea eb;have hj' : j < (p.bts[q]).path.length := by omega
              have hx := hbtq.2.2 _ (List.getElem_mem hj');refine ⟨((p.bts[q]).path[j]).toNat, by omega, ?_, ?_, by have := b.size; omega⟩
              · have e : ((p.bts[q]).path[j]) = (((p.bts[q]).path[j]).toNat : Int) := by omega
                rw [hpq, List.getElem?_eq_getElem hj', ← e]
              · have e : ((p.bts[q]).path[j]) = (((p.bts[q]).path[j]).toNat : Int) := by omega
                rw [hc9 j _ (iG_ hj'), ← e]; simp [List.getD_eq_getElem?_getD, hj']
            have hlenP : (bt p (q : Int)).path.length = np := by rw [hpq, hnp]
            obtain ⟨f, hf⟩ : ∃ f, f = slotOk p s l (bt p (q : Int)).path mo tg := ⟨_, rfl⟩;have HC := Lib.hid (And.intro cells (And.intro PB2 (And.intro LB2 (And.intro rpath (And.intro hlenP (And.intro hf (And.intro eB (And.intro O2.bel hD2))))))));rw [eB] at g1;clear O2 PB2 LB2 hp2 hl2' cells hpa hnp hpq hbtq hnp6 rpath hlenP hf eB e0 hD2 g0 g2 g4 g5;have hnx := HS.out.2.2.2.2.1.nx
            go_upto_block 0 with fail
            clear e1 ze g1 g3 y0 y2;go_wp2_with fail
            go_loopg [19, 20, 21] H (fun g o la h wy => ∃ (k : Nat) (A : Option Addr) (n cO : Nat) (fp : List Nat), g + k = H ∧ h = .int .i64 k ∧ n = (slotS f k).length ∧ o = .slice A n cO ∧ la = .int .i64 (lastHi (slotS f k)) ∧ Own w2.heap.size w2 [It.own 129 2 A n cO (spcs (slotS f k)) fp] wy)
            case atStart => exact ⟨0, none, 0, 0, [], rfl, rfl, rfl, rfl, rfl, (Own.start w2).new (i := .own 129 2 none 0 0 (spcs []) []) (Below.refl _ _) (OwnS.nil _ _ _) (by simp [It.fp])⟩
            case round =>
              obtain ⟨k, A, n, cO, fp, hk, rfl, hn, rfl, rfl, hO⟩ := hrel;obtain ⟨G1, hG1⟩ : ∃ q, q = gk := ⟨_, rfl⟩;obtain ⟨g0, g1, g2, g3, g4, g5, y0, y2⟩ := HC.out.1 wr hO.bel;by_cases hlt : k < H
              · obtain ⟨y, hy, hys⟩ := rows_at HQ.out.1 (k := k) (by omega);obtain ⟨g', e1, e2, zg, hgc, hgf⟩ := HQ.out.2.1.some_ (by omega);injection e1 with e1; injection e1 with e1; subst e1
                obtain ⟨ys, yA, yc, yB, yd⟩ := y;simp only at hys;have yb := (HQ.out.2.2.1 0).2 [] _ (Keep.refl _ _) (by simp) _ (List.mem_of_getElem? hy);simp only at yb;have d0 := hgc _ _ (srcs_get hy).1;have d1 := hgc _ _ (srcs_get hy).2;simp only at d0 d1;have hlen := stN_lens p l s k;rw [← hys] at hlen;obtain ⟨N, hN⟩ : ∃ N, N = ys.brash.length := ⟨_, rfl⟩;obtain ⟨M, hM⟩ : ∃ N, N = ys.busy.length := ⟨_, rfl⟩;rw [← hN] at d0;rw [← hM] at d1;have hNc : N = p.chs.length := by rw [hN, hlen.1]; exact HS.out.2.2.1
                have hMc : M = p.bts.length := by rw [hM, hlen.2]; exact HS.out.2.2.2.1
                have hbr := stN_bd HS.out.2.2.2.2.1 (B := 1000000) (by decide) (brR_of (by decide) HS.out.2.2.2.2.2.2.2) k;have ksw : ∀ wx, Below w2.heap.size w2 wx → Calls Try.prog 112 #[.agg (prtV Ac cc Ab cb p), .agg #[.slice yA N yc, .slice yB M yd], .agg (plnV Al cl As cs l), .int .i64 k] wx fun e w' => ∃ A c B d q, e = .returned (.agg #[.slice A N c, .slice B M d]) ∧ (∀ D, (It.gen q (SttH A c B d ⟨swpN p k l.swps (stN p l s k).brash, (stN p l s k).busy⟩)).holds D w') ∧ (∀ x ∈ q, wx.heap.size ≤ x) ∧ Below wx.heap.size wx w' := fun wx b => by
                  have h := swept_any w2.heap.size Ac cc Ab cb p yA yc yB yd ys Al cl As cs l k wx ((HC.out.2.1 wx b).mono HC.out.2.2.2.2.2.2.2.2) (yb.below b) ((HC.out.2.2.1 wx b).mono HC.out.2.2.2.2.2.2.2.2) b.size HS.out.2.2.2.2.1 (by rw [← hN]; exact hNc) (by rw [← hM]; exact hMc) (fun j => by have := hbr j; rw [← hys] at this; omega);simp only [sttV, ← hN, ← hM] at h;refine h.mono fun e w' hh => ?_;obtain ⟨A, c, B, d, q, h1, h2, h3, h4⟩ := hh.newStt;have hL1 : (swpN p k l.swps ys.brash).length = N := by rw [swpN_length, hN]
                  refine ⟨A, c, B, d, q, ?_, by rw [← hys]; exact h2, h3, h4⟩;rw [h1]; simp only [sttV, hL1, ← hM]
                have HSW := Lib.hid ksw;have HRW := Lib.hid (And.intro d0 (And.intro d1 zg));have hNM : N = p.chs.length ∧ M = p.bts.length ∧ 1 ≤ N ∧ N ≤ 6 ∧ 1 ≤ M ∧ M ≤ 4 := by omega
                have hkI : (0 : Int) ≤ (k : Int) ∧ (k : Int) < (H : Int) + 1 := by omega
                have HO := Lib.hid (And.intro hO hn);clear ksw d0 d1 hO hn yb hgc hgf hlen hys hy hN hM hNc hMc hbr e2;go_upto_region 17 with fail
                clear g0 g1 g2 g3 g4 g5 y0 y2;refine wRS (σ := RsS) (by kernel_rfl) (by kernel_rfl) (fun sg jx vx _ => Rs17V Ac cc Ab cb p Al cl As cs l g c0 H k N M yA yc yB yd sg jx vx) (fun sg ly wx => Own w2.heap.size w2 [It.own 129 2 A n cO (spcs (slotS f k)) fp, if ly 7 = true then It.gen sg.q1 (SttH sg.A1 sg.c1 sg.B1 sg.d1 ⟨swpN p k l.swps (stN p l s k).brash, (stN p l s k).busy⟩) else noIt, if ly 8 = true then It.blk sg.xb (.cells (if ly 9 = true then #[.slice sg.A1 N sg.c1, .slice sg.B1 M sg.d1] else #[.slice none 0 0, .slice none 0 0]) 81) else noIt] wx) ⟨none, 0, none, 0, [], 0⟩ ?_ ?_ ?_
                · exact HO.out.1.blank.blank.drew
                · simp only [AllFrom, Nat.zero_add, Nat.reduceAdd];refine ⟨?_, ?_, ?_, ?_, ?_, ?_, ?_, ?_, ?_, ?_, trivial⟩
                  · refine sP_ fun sg ly act wx hl hd hW hF => ?_;have et6 := hF.old 6 (by kernel_rfl);simp [Act.eval] at et6;have hO := hW;obtain ⟨cA, cB, cC, cD, cE, cF, cP, cL⟩ := HC.out.1 wx hO.bel;exact ⟨hW, .agg (prtV Ac cc Ab cb p), by go_simp, rfl⟩
                  · refine sP_ fun sg ly act wx hl hd hW hF => ?_;have et15 := hF.old 15 (by kernel_rfl);simp [Act.eval] at et15;exact ⟨hW, .slice (some ⟨g, 0, none⟩) (H + 1) c0, by go_simp, rfl⟩
                  · refine sP_ fun sg ly act wx hl hd hW hF => ?_;have et21 := hF.old 21 (by kernel_rfl);simp [Act.eval] at et21;exact ⟨hW, .int .i64 k, by go_simp, rfl⟩
                  · refine sP_ fun sg ly act wx hl hd hW hF => ?_;simp [Region.binds] at hd;have et79 := hF.new 1 79 (by simp [hd]) rfl;simp [Rs17V, Act.eval] at et79;have et80 := hF.new 2 80 (by simp [hd]) rfl;simp [Rs17V, Act.eval] at et80;exact ⟨hW, .pointer (some ⟨g, k * 2, none⟩), by go_simp, rfl⟩
                  · refine sP_ fun sg ly act wx hl hd hW hF => ?_;simp [Region.binds] at hd;have et81 := hF.new 3 81 (by simp [hd]) rfl;simp [Rs17V, Act.eval] at et81;have hO := hW;have dd0 := (hO.bel.cell (p := ⟨g, k * 2, none⟩) HRW.out.2.2).trans HRW.out.1;have dd1 := (hO.bel.cell (p := ⟨g, k * 2 + 1, none⟩) HRW.out.2.2).trans HRW.out.2.1;have dz := Nat.lt_of_lt_of_le HRW.out.2.2 hO.bel.size;exact ⟨hW, .agg #[.slice yA N yc, .slice yB M yd], by go_simp, rfl⟩
                  · refine sP_ fun sg ly act wx hl hd hW hF => ?_;have et8 := hF.old 8 (by kernel_rfl);simp [Act.eval] at et8;have hO := hW;obtain ⟨cA, cB, cC, cD, cE, cF, cP, cL⟩ := HC.out.1 wx hO.bel;rw [← HS.out.2.2.2.2.2.2.1] at cD;exact ⟨hW, .agg (plnV Al cl As cs l), by go_simp, rfl⟩
                  · refine sP_ fun sg ly act wx hl hd hW hF => ?_;have et21 := hF.old 21 (by kernel_rfl);simp [Act.eval] at et21;exact ⟨hW, .int .i64 k, by go_simp, rfl⟩
                  · refine sC_ fun sg ly act wx hl hd hW hF => ?_;simp [Region.binds] at hd;have et78 := hF.new 0 78 (by simp [hd]) rfl;simp [Rs17V, Act.eval] at et78;have et82 := hF.new 4 82 (by simp [hd]) rfl;simp [Rs17V, Act.eval] at et82;have et83 := hF.new 5 83 (by simp [hd]) rfl;simp [Rs17V, Act.eval] at et83;have et84 := hF.new 6 84 (by simp [hd]) rfl;simp [Rs17V, Act.eval] at et84;have n9 := hF.notYet 7 9 hl (by kernel_rfl);have hO := hW;try dsimp only at hO
                    simp only [hl, n9, Bool.false_eq_true, if_false, if_true] at hO;refine ⟨112, #[.agg (prtV Ac cc Ab cb p), .agg #[.slice yA N yc, .slice yB M yd], .agg (plnV Al cl As cs l), .int .i64 k], by go_simp, ?_⟩;refine (HSW.out wx hO.bel).mono ?_;rintro e w2 ⟨A', c', B', d', q', rfl, h1, h2, h3⟩;have hN := hO.newG 1 rfl h3 (h1 _) h2;refine ⟨_, { sg with A1 := A', c1 := c', B1 := B', d1 := d', q1 := q' }, rfl, ?_, rfl, ?_⟩
                    · simpa [upd, n9] using hN
                    · intro i u hi h;have i7 : i ≠ 7 := by rintro rfl; rw [hl] at hi; cases hi
                      have i9 : i ≠ 9 := by rintro rfl; rw [n9] at hi; cases hi
                      unfold Rs17V at h ⊢;split at h <;> first | exact h | exact absurd rfl i7 | exact absurd rfl i9
                  · refine sR_ fun sg ly act wx hl hd hW hF => ?_;have n9 := hF.notYet 8 9 hl (by kernel_rfl);have hO := hW;try dsimp only at hO
                    simp only [hl, n9, Bool.false_eq_true, if_false, if_true] at hO;refine ⟨_, wx.alloc (.cells #[.slice none 0 0, .slice none 0 0] 81), { sg with xb := wx.heap.size }, by go_simp, ?_, rfl, ?_⟩
                    · have hN := hO.newB 2 rfl (.cells #[.slice none 0 0, .slice none 0 0] 81);simpa [upd, n9] using hN
                    · intro i u hi h;have i8 : i ≠ 8 := by rintro rfl; rw [hl] at hi; cases hi
                      have i9 : i ≠ 9 := by rintro rfl; rw [n9] at hi; cases hi
                      unfold Rs17V at h ⊢;split at h <;> first | exact h | exact absurd rfl i8 | exact absurd rfl i9
                  · refine sS_ rfl fun sg ly act wx hl hd hW hF => ?_;simp [Region.binds] at hd;have et24 := hF.new 8 24 (by simp [hd]) rfl;simp [Rs17V, Act.eval] at et24;have et85 := hF.new 7 85 (by simp [hd]) rfl;simp [Rs17V, Act.eval] at et85;have y7 : ly 7 = true := by simp [hd]
                    have y8 : ly 8 = true := by simp [hd]
                    have hO := hW;try dsimp only at hO
                    simp only [hl, y7, y8, Bool.false_eq_true, if_false, if_true] at hO;have hh := hO.heap 2 rfl;have clq0 := (cOH hh 0).trans rfl;have flq0 := fOH hh 0;have clq1 := (cOH hh 1).trans rfl;have flq1 := fOH hh 1;have zz := hL_ hh;refine ⟨((wx.setCell ⟨sg.xb, 0, none⟩ (.slice sg.A1 N sg.c1)).setCell ⟨sg.xb, 1, none⟩ (.slice sg.B1 M sg.d1)), sg, .skip, by go_simp, .inl rfl, ?_, fun _ _ _ h => h⟩;have hN := hO.set 2 rfl (((Keep.refl _ _).setCell (.inl (by simp)) (.slice sg.A1 N sg.c1)).setCell (.inl (by simp)) (.slice sg.B1 M sg.d1)) (hS_ (hS_ (hh) 0 (.slice sg.A1 N sg.c1)) 1 (.slice sg.B1 M sg.d1));simpa [upd, y7, y8, hl] using hN
                intro sg af w8 hWW hF;have e24 := hF.new 8 24 (by decide) rfl;obtain ⟨ff, hf, rfl⟩ := hF.lit;obtain ⟨A1, c1, B1, d1, q1, xb⟩ := sg;rw [← hf] at e24;simp only [Rs17V] at e24;have O8 : Own w2.heap.size w2 [It.own 129 2 A n cO (spcs (slotS f k)) fp, if (fun j => decide (j < List.length (_ : List Oper))) 7 = true then It.gen (RsS.mk A1 c1 B1 d1 q1 xb).q1 (SttH (RsS.mk A1 c1 B1 d1 q1 xb).A1 (RsS.mk A1 c1 B1 d1 q1 xb).c1 (RsS.mk A1 c1 B1 d1 q1 xb).B1 (RsS.mk A1 c1 B1 d1 q1 xb).d1 ⟨swpN p k l.swps (stN p l s k).brash, (stN p l s k).busy⟩) else noIt, if (fun j => decide (j < List.length (_ : List Oper))) 8 = true then It.blk (RsS.mk A1 c1 B1 d1 q1 xb).xb (.cells (if (fun j => decide (j < List.length (_ : List Oper))) 9 = true then #[.slice (RsS.mk A1 c1 B1 d1 q1 xb).A1 N (RsS.mk A1 c1 B1 d1 q1 xb).c1, .slice (RsS.mk A1 c1 B1 d1 q1 xb).B1 M (RsS.mk A1 c1 B1 d1 q1 xb).d1] else #[.slice none 0 0, .slice none 0 0]) 81) else noIt] w8 := hWW;simp only [List.length_cons, List.length_nil, Nat.reduceAdd, Nat.reduceLT, decide_true, if_true] at O8;have ht1 : SttH A1 c1 B1 d1 ⟨swpN p k l.swps (stN p l s k).brash, (stN p l s k).busy⟩ w8 := O8.thing 1 rfl;have hbl : (swpN p k l.swps (stN p l s k).brash).length = N := by have := ht1.br.1; have h2 := HO.out.2; rw [swpN_length, (stN_lens p l s k).1, HS.out.2.2.1]; omega
                obtain ⟨gA, oA, rfl⟩ : ∃ b o, A1 = some ⟨b, o, none⟩ := by
                  obtain ⟨b, o, e, _⟩ := ht1.br.2 (by show 0 < (swpN p k l.swps (stN p l s k).brash).length; omega);exact ⟨b, o, e⟩
                have HO8 := Lib.hid O8;have HBL := Lib.hid hbl;clear hWW hF hf O8 ht1 hbl;simp only [List.filterMap, List.foldl, List.setIfInBounds_toArray, List.set_cons_succ, List.set_cons_zero, e24];clear e24;have brash : ∀ wy, Own w2.heap.size w2 [It.own 129 2 A n cO (spcs (slotS f k)) fp, It.gen q1 (SttH (some ⟨gA, oA, none⟩) c1 B1 d1 ⟨swpN p k l.swps (stN p l s k).brash, (stN p l s k).busy⟩), It.blk xb (.cells #[.slice (some ⟨gA, oA, none⟩) N c1, .slice B1 M d1] 81)] wy → ∀ i : Nat, i < p.chs.length → wy.cell? ⟨gA, oA + i, none⟩ = some (.int .i64 (getI (swpN p k l.swps (stN p l s k).brash) i)) ∧ gA < wy.heap.size ∧ wy.cell? ⟨xb, 0, none⟩ = some (.slice (some ⟨gA, oA, none⟩) N c1) ∧ xb < wy.heap.size := fun wy O i hi => by
                  have ht1 : SttH (some ⟨gA, oA, none⟩) c1 B1 d1 ⟨swpN p k l.swps (stN p l s k).brash, (stN p l s k).busy⟩ wy := O.thing 1 rfl;have hxh := O.heap 2 rfl;obtain ⟨b9, o9, e9, hb9, hc9⟩ := ht1.br.2 (by show 0 < (swpN p k l.swps (stN p l s k).brash).length; have := HBL.out; omega);injection e9 with e9
                  injection e9 with ea eb _
                  subst ea eb;refine ⟨?_, hb9, (cOH hxh 0).trans rfl, hL_ hxh⟩;rw [hc9 i _ (iG_ (by show i < (swpN p k l.swps (stN p l s k).brash).length; have := HBL.out; omega))];have := HBL.out;simp [getI, List.getD_eq_getElem?_getD, show i < (swpN p k l.swps (stN p l s k).brash).length from by omega]
                have HBR := Lib.hid brash;clear brash
                go_upto_block 2 with fail
                go_cut [22] from 86 to 104 (fun z wy => z = .bool ((bt p (q : Int)).path.all fun x => decide (getI (swpN p k l.swps (stN p l s k).brash) x ≤ mo)) ∧ Own w2.heap.size w2 [It.own 129 2 A n cO (spcs (slotS f k)) fp, It.gen q1 (SttH (some ⟨gA, oA, none⟩) c1 B1 d1 ⟨swpN p k l.swps (stN p l s k).brash, (stN p l s k).busy⟩), It.blk xb (.cells #[.slice (some ⟨gA, oA, none⟩) N c1, .slice B1 M d1] 81)] wy)
                case first =>
                  go_wp2_with fail
                  go_loopg [22, 25] np (fun g z i wy => ∃ j : Nat, g + j = np ∧ i = .int .i64 j ∧ z = .bool (((bt p (q : Int)).path.take j).all fun x => decide (getI (swpN p k l.swps (stN p l s k).brash) x ≤ mo)) ∧ Own w2.heap.size w2 [It.own 129 2 A n cO (spcs (slotS f k)) fp, It.gen q1 (SttH (some ⟨gA, oA, none⟩) c1 B1 d1 ⟨swpN p k l.swps (stN p l s k).brash, (stN p l s k).busy⟩), It.blk xb (.cells #[.slice (some ⟨gA, oA, none⟩) N c1, .slice B1 M d1] 81)] wy)
                  case atStart => exact ⟨0, rfl, rfl, by simp, HO8.out⟩
                  case round =>
                    obtain ⟨j, hj, rfl, rfl, hO⟩ := hrel;by_cases hlj : j < np
                    · obtain ⟨i, hi, hxi, hpc, hbp⟩ := HC.out.2.2.2.1 wr hO.bel j hlj;obtain ⟨c9, zA, x9, zx⟩ := HBR.out wr hO i hi;obtain ⟨z, hz⟩ : ∃ z, z = ((bt p (q : Int)).path.take j).all fun x => decide (getI (swpN p k l.swps (stN p l s k).brash) x ≤ mo) := ⟨_, rfl⟩;rw [← hz];obtain ⟨bv, hbv⟩ : ∃ v, v = getI (swpN p k l.swps (stN p l s k).brash) i := ⟨_, rfl⟩;rw [← hbv] at c9;have hstep : (((bt p (q : Int)).path.take (j + 1)).all fun x => decide (getI (swpN p k l.swps (stN p l s k).brash) x ≤ mo)) = (z && decide (bv ≤ mo)) := by
                        rw [List.take_add_one, hxi, List.all_append, ← hz, hbv]; simp
                      have HJ := Lib.hid (And.intro hO hstep);have hjI : (0 : Int) ≤ (j : Int) ∧ (j : Int) < (np : Int) ∧ (0 : Int) ≤ (i : Int) ∧ (i : Int) < (N : Int) := by omega
                      clear hO hstep hz hbv hxi;cases z
                      · go_upto_region 21 with fail
                        go_quiet (fail);go_wp2_with fail
                        go_roundg (gk - 1);case measure => omega
                        case rel => exact ⟨j + 1, by omega, by go_num, by rw [HJ.out.2]; rfl, HJ.out.1.below (((Keep.refl [] _).drewN _).below (Nat.le_refl _) (by simp))⟩
                      · by_cases hle : bv ≤ mo
                        · have hd : decide (bv ≤ mo) = true := decide_eq_true hle;have HD := Lib.hid hd;go_upto_region 21 with fail
                          go_quiet (fail);go_wp2_with fail
                          go_roundg (gk - 1);case measure => omega
                          case rel => exact ⟨j + 1, by omega, by go_num, by rw [HJ.out.2, HD.out]; rfl, HJ.out.1.below (((Keep.refl [] _).drewN _).below (Nat.le_refl _) (by simp))⟩
                        · have hd : decide (bv ≤ mo) = false := decide_eq_false hle;have HD := Lib.hid hd;clear hle;go_upto_region 21 with fail
                          go_quiet (fail);go_wp2_with fail
                          go_roundg (gk - 1);case measure => omega
                          case rel => exact ⟨j + 1, by omega, by go_num, by rw [HJ.out.2, HD.out]; rfl, HJ.out.1.below (((Keep.refl [] _).drewN _).below (Nat.le_refl _) (by simp))⟩
                    · obtain rfl : j = np := by omega
                      have HJ := Lib.hid hO;clear hO;go_wp2_with fail
                      go_meet
                      exact ⟨by rw [List.take_of_length_le (by rw [HC.out.2.2.2.2.1]; exact Nat.le_refl _)], HJ.out⟩
                case rest =>
                  obtain ⟨rfl, hO9⟩ := hcut;obtain ⟨w9, rfl, hO9⟩ : ∃ wz, wz = _ ∧ Own w2.heap.size w2 [It.own 129 2 A n cO (spcs (slotS f k)) fp, It.gen q1 (SttH (some ⟨gA, oA, none⟩) c1 B1 d1 ⟨swpN p k l.swps (stN p l s k).brash, (stN p l s k).busy⟩), It.blk xb (.cells #[.slice (some ⟨gA, oA, none⟩) N c1, .slice B1 M d1] 81)] wz := ⟨_, rfl, hO9⟩;obtain ⟨zp, hzp⟩ : ∃ z, z = ((bt p (q : Int)).path.all fun x => decide (getI (swpN p k l.swps (stN p l s k).brash) x ≤ mo)) := ⟨_, rfl⟩;rw [← hzp];have HZ := Lib.hid hzp;have HO9 := Lib.hid hO9;clear hzp hO9
                  go_upto_block 4 with fail
                  go_cut [22, 23] from 105 to 146 (fun z nd wy => z = .bool (zp && !shutR p k (bt p (q : Int)).path l.calls) ∧ nd = .int .i64 (tg + callT l k l.calls) ∧ Own w2.heap.size w2 [It.own 129 2 A n cO (spcs (slotS f k)) fp, It.gen q1 (SttH (some ⟨gA, oA, none⟩) c1 B1 d1 ⟨swpN p k l.swps (stN p l s k).brash, (stN p l s k).busy⟩), It.blk xb (.cells #[.slice (some ⟨gA, oA, none⟩) N c1, .slice B1 M d1] 81)] wy)
                  case first =>
                    go_wp2_with fail
                    go_loopg [22, 23, 26] l.calls.length (fun g z nd i wy => ∃ j : Nat, g + j = l.calls.length ∧ i = .int .i64 j ∧ z = .bool (zp && !shutR p k (bt p (q : Int)).path (l.calls.take j)) ∧ nd = .int .i64 (tg + callT l k (l.calls.take j)) ∧ Own w2.heap.size w2 [It.own 129 2 A n cO (spcs (slotS f k)) fp, It.gen q1 (SttH (some ⟨gA, oA, none⟩) c1 B1 d1 ⟨swpN p k l.swps (stN p l s k).brash, (stN p l s k).busy⟩), It.blk xb (.cells #[.slice (some ⟨gA, oA, none⟩) N c1, .slice B1 M d1] 81)] wy)
                    case atStart => exact ⟨0, rfl, rfl, by simp [shutR], by simp [callT], HO9.out⟩
                    case round =>
                      obtain ⟨j, hj, rfl, rfl, rfl, hO⟩ := hrel;obtain ⟨G3, hG3⟩ : ∃ q, q = gk := ⟨_, rfl⟩;obtain ⟨g0, g1, g2, g3, g4, g5, y0, y2⟩ := HC.out.1 wr hO.bel;obtain ⟨zq, hzq⟩ : ∃ z, z = (zp && !shutR p k (bt p (q : Int)).path (l.calls.take j)) := ⟨_, rfl⟩;obtain ⟨ct, hct⟩ : ∃ z, z = callT l k (l.calls.take j) := ⟨_, rfl⟩;rw [← hzq, ← hct];by_cases hlj : j < l.calls.length
                      · obtain ⟨b2, off2, eL, hbD2, hcell⟩ := (HC.out.2.2.1 wr hO.bel).calls.2 (by omega);obtain ⟨x, hx⟩ : ∃ x, x = l.calls[j] := ⟨_, rfl⟩;obtain ⟨r0, r1, r2, r3, r4, r5⟩ := cacs_get hlj;rw [← hx] at r0 r1 r2 r3 r4 r5;have dd0 := hcell _ _ r0;have dd1 : wr.cell? ⟨b2, off2 + j * 6 + 1, none⟩ = _ := hcell _ _ r1;have dd2 : wr.cell? ⟨b2, off2 + j * 6 + 2, none⟩ = _ := hcell _ _ r2;have dd3 : wr.cell? ⟨b2, off2 + j * 6 + 3, none⟩ = _ := hcell _ _ r3;have dd4 : wr.cell? ⟨b2, off2 + j * 6 + 4, none⟩ = _ := hcell _ _ r4;have dd5 : wr.cell? ⟨b2, off2 + j * 6 + 5, none⟩ = _ := hcell _ _ r5;have hxv := HS.out.2.2.2.2.1.ca l.calls[j] (List.getElem_mem _);have hxt := HS.out.2.2.2.2.2.1 l.calls[j] (List.getElem_mem _);rw [← hx] at hxv hxt;have zb := World.block_lt_of_cell? _ _ dd0;obtain ⟨ho, bq, ou, dr, ms, tu⟩ := x;simp only at dd0 dd1 dd2 dd3 dd4 dd5 hxv hxt zb;obtain ⟨bn, hbn⟩ : ∃ k : Nat, bq = k := ⟨bq.toNat, by omega⟩;subst hbn;have hbn2 : bn < p.bts.length := by omega
                        have hbd := callT_bd l (k : Int) (L := l.calls.take j) (fun x hx => HS.out.2.2.2.2.2.1 x (List.mem_of_mem_take hx));have hbl : (l.calls.take j).length ≤ 60 := by rw [List.length_take]; omega
                        rw [← hct] at hbd;have hcb : 0 ≤ ct ∧ ct ≤ 1200 := by omega
                        have hs1 := callT_snoc l (k : Int) ⟨ho, bn, ou, dr, ms, tu⟩ (l.calls.take j);have hs2 := shutR_snoc p (k : Int) (bt p (q : Int)).path (l.calls.take j) ⟨ho, bn, ou, dr, ms, tu⟩;have htk : l.calls.take (j + 1) = l.calls.take j ++ [⟨ho, bn, ou, dr, ms, tu⟩] := by rw [List.take_succ_eq_append_getElem hlj, ← hx]
                        rw [← htk, ← hct] at hs1;rw [← htk] at hs2;obtain ⟨cbx, hcbx⟩ : ∃ b, b = wr.heap.size := ⟨_, rfl⟩;obtain ⟨X, hX⟩ : ∃ X, X = wr.alloc (.cells #[.int .i64 ho, .int .i64 bn, .bool ou, .int .i64 dr, .int .i64 ms, .int .i64 tu] 173) := ⟨_, rfl⟩;have OX : Own w2.heap.size w2 [It.own 129 2 A n cO (spcs (slotS f k)) fp, It.gen q1 (SttH (some ⟨gA, oA, none⟩) c1 B1 d1 ⟨swpN p k l.swps (stN p l s k).brash, (stN p l s k).busy⟩), It.blk xb (.cells #[.slice (some ⟨gA, oA, none⟩) N c1, .slice B1 M d1] 81), .blk cbx (.cells #[.int .i64 ho, .int .i64 bn, .bool ou, .int .i64 dr, .int .i64 ms, .int .i64 tu] 173 (0, 0))] X := by rw [hX, hcbx]; exact hO.alloc _
                        have hxh := OX.heap 3 rfl;have u0 : X.cell? ⟨cbx, 0, none⟩ = some (.int .i64 ho) := (cOH hxh 0).trans rfl;have u5 : X.cell? ⟨cbx, 5, none⟩ = some (.int .i64 tu) := (cOH hxh 5).trans rfl;have zx := hL_ hxh;have HJ := Lib.hid (And.intro OX (And.intro hs1 (And.intro hs2 hzq)));rw [eL] at g4;clear OX hs1 hs2 hO hcell r0 r1 r2 r3 r4 r5 hxh hbd hbl hx htk hzq hct eL g0 g1 g2 g3 g5 y0;by_cases hhk : ho = (k : Int)
                        · subst hhk;go_upto_region 26 with fail
                          rw [← hX, ← hcbx];clear hX hcbx dd0 dd1 dd2 dd3 dd4 dd5 zb g4 y2;go_wp2_with fail
                          clear u0 u5 zx
                          go_loopg [22, 28] np (fun g z i wy => ∃ e : Nat, g + e = np ∧ i = .int .i64 e ∧ z = .bool (zq && !(((bt p (q : Int)).path.take e).any fun x => decide (x ∈ (bt p (bn : Int)).path))) ∧ Own w2.heap.size w2 [It.own 129 2 A n cO (spcs (slotS f k)) fp, It.gen q1 (SttH (some ⟨gA, oA, none⟩) c1 B1 d1 ⟨swpN p k l.swps (stN p l s k).brash, (stN p l s k).busy⟩), It.blk xb (.cells #[.slice (some ⟨gA, oA, none⟩) N c1, .slice B1 M d1] 81), .blk cbx (.cells #[.int .i64 k, .int .i64 bn, .bool ou, .int .i64 dr, .int .i64 ms, .int .i64 tu] 173 (0, 0))] wy)
                          case atStart => exact ⟨0, rfl, rfl, by simp, HJ.out.1⟩
                          case round =>
                            obtain ⟨e, he, rfl, rfl, hO⟩ := hrel;by_cases hle : e < np
                            · obtain ⟨i, hi, hxi, hpc, hbp⟩ := HC.out.2.2.2.1 wr hO.bel e hle;obtain ⟨g0, g1, g2, g3, g4, g5, y0, y2⟩ := HC.out.1 wr hO.bel;obtain ⟨b3, o3, A3, c3, eB3, hb3, e0, e1, hpa3⟩ := (HC.out.2.1 wr hO.bel).bts bn hbn2;obtain ⟨pl, hpl⟩ : ∃ n, n = (p.bts[bn]).path.length := ⟨_, rfl⟩;have hpb3 : (bt p (bn : Int)).path = (p.bts[bn]).path := by simp [bt, hbn2]
                              have hDr : D ≤ wr.heap.size := Nat.le_trans HC.out.2.2.2.2.2.2.2.2 hO.bel.size;have r3 := hpa3.1.rd hDr;rw [← hpl] at e1 r3;have ze := World.block_lt_of_cell? _ _ e1;simp only at ze;have hp9 := HS.out.2.2.2.2.1.btf (p.bts[bn]) (List.getElem_mem _);have hp8 := nodup_range_le hp9.2.1 hp9.2.2;obtain ⟨yy, hyy⟩ : ∃ y, y = decide ((i : Int) ∈ (bt p (bn : Int)).path) := ⟨_, rfl⟩;have kh : ∀ n, Calls Try.prog 106 #[.slice A3 pl c3, .int .i64 i] (wr.drewN n) fun e w' => e = .returned (.bool yy) ∧ w' = wr.drewN n := fun n => by
                                have hb : Below wr.heap.size wr (wr.drewN n) := ((Keep.refl [] wr).drewN n).below (Nat.le_refl _) (by simp);have h := rhas_any A3 c3 (p.bts[bn]).path i (wr.drewN n) (by rw [← hpl]; exact r3.below hb) (by omega);rw [← hpl, show (p.bts[bn]).path.contains (i : Int) = yy from by rw [hyy, hpb3]; simp] at h;exact h.mono fun e w' hh => ⟨hh.1, hh.2.symm⟩
                              have hxh := hO.heap 3 rfl;have u1 : wr.cell? ⟨cbx, 1, none⟩ = some (.int .i64 bn) := (cOH hxh 1).trans rfl;have zx := hL_ hxh;obtain ⟨z, hz⟩ : ∃ z, z = (zq && !(((bt p (q : Int)).path.take e).any fun x => decide (x ∈ (bt p (bn : Int)).path))) := ⟨_, rfl⟩;rw [← hz];have hstep : (zq && !(((bt p (q : Int)).path.take (e + 1)).any fun x => decide (x ∈ (bt p (bn : Int)).path))) = (z && !yy) := by
                                rw [List.take_add_one, hxi, List.any_append, hz, hyy]; simp [Bool.and_assoc]
                              have HE := Lib.hid (And.intro hO (And.intro hstep kh));have heI : (0 : Int) ≤ (e : Int) ∧ (e : Int) < (np : Int) ∧ (0 : Int) ≤ (bn : Int) ∧ (bn : Int) < (p.bts.length : Int) := by omega
                              rw [eB3] at g1;clear hO hstep hz hyy hxi kh r3 hpa3 e0 hpl hpb3 hp9 hp8 eB3 hxh hb3 hDr g0 g2 g3 g4 g5 y2;cases z
                              · go_upto_region 31 with fail
                                go_quiet (fail);go_wp2_with fail
                                go_roundg (gk - 1);case measure => omega
                                case rel => exact ⟨e + 1, by omega, by go_num, by rw [HE.out.2.1]; rfl, HE.out.1.below (((Keep.refl [] _).drewN _).below (Nat.le_refl _) (by simp))⟩
                              · go_upto_region 31 with fail
                                go_quiet ((go_at_call 106; with_reducible exact Calls.quiet_of_same (HE.out.2.2 _)));go_wp2_with fail
                                go_roundg (gk - 1);case measure => omega
                                case rel => exact ⟨e + 1, by omega, by go_num, by rw [HE.out.2.1]; simp, HE.out.1.below (((Keep.refl [] _).drewN _).below (Nat.le_refl _) (by simp))⟩
                            · obtain rfl : e = np := by omega
                              rw [List.take_of_length_le (by rw [HC.out.2.2.2.2.1]; exact Nat.le_refl _)];obtain ⟨z, hz⟩ : ∃ z, z = (zq && !((bt p (q : Int)).path.any fun x => decide (x ∈ (bt p (bn : Int)).path))) := ⟨_, rfl⟩;rw [← hz];have hfin : (zp && !shutR p k (bt p (q : Int)).path (l.calls.take (j + 1))) = z := by
                                rw [HJ.out.2.2.1, hz, HJ.out.2.2.2, decide_true, Bool.true_and, Bool.not_or, Bool.and_assoc]
                              have hfc : callT l k (l.calls.take (j + 1)) = ct + tu := by rw [HJ.out.2.1]; simp
                              have HE := Lib.hid (And.intro hO (And.intro hfin hfc));clear hO hz hfin hfc;go_wp2_with fail
                              go_roundg (G3 - 1);case measure => omega
                              case rel => exact ⟨j + 1, by omega, by go_num, by rw [HE.out.2.1], by rw [HE.out.2.2]; congr 1; omega, HE.out.1.take 3⟩
                        · have hnb1 : (ho != (k : Int)) = true := by simp [hhk]
                          have hfin : (zp && !shutR p k (bt p (q : Int)).path (l.calls.take (j + 1))) = zq := by
                            rw [HJ.out.2.2.1, HJ.out.2.2.2, decide_eq_false hhk, Bool.false_and, Bool.or_false]
                          have hfc : callT l k (l.calls.take (j + 1)) = ct := by rw [HJ.out.2.1, if_neg hhk]; omega
                          have HE := Lib.hid (And.intro hfin hfc);clear hfin hfc hhk;go_upto_region 26 with fail
                          rw [← hX, ← hcbx];clear hX hcbx dd0 dd1 dd2 dd3 dd4 dd5 zb g4 y2;go_wp2_with fail
                          go_roundg (G3 - 1);case measure => omega
                          case rel => exact ⟨j + 1, by omega, by go_num, by rw [HE.out.1], by rw [HE.out.2], HJ.out.1.take 3⟩
                      · obtain rfl : j = l.calls.length := by omega
                        rw [List.take_length] at hzq hct;have HJ := Lib.hid (And.intro hO (And.intro hzq hct));clear hO hzq hct g0 g1 g2 g3 g5 y0;go_wp2_with fail
                        go_meet
                        exact ⟨by rw [HJ.out.2.1], by rw [HJ.out.2.2], HJ.out.1⟩
                  case rest =>
                    obtain ⟨rfl, rfl, hO10⟩ := hcut;obtain ⟨w10, rfl, hO10⟩ : ∃ wz, wz = _ ∧ Own w2.heap.size w2 [It.own 129 2 A n cO (spcs (slotS f k)) fp, It.gen q1 (SttH (some ⟨gA, oA, none⟩) c1 B1 d1 ⟨swpN p k l.swps (stN p l s k).brash, (stN p l s k).busy⟩), It.blk xb (.cells #[.slice (some ⟨gA, oA, none⟩) N c1, .slice B1 M d1] 81)] wz := ⟨_, rfl, hO10⟩;rw [shutR_eq];obtain ⟨zf, hzf⟩ : ∃ z, z = (zp && !shutL p k (bt p (q : Int)).path l.calls) := ⟨_, rfl⟩;obtain ⟨ct, hct⟩ : ∃ z, z = callT l k l.calls := ⟨_, rfl⟩;have hbd := callT_bd l (k : Int) (L := l.calls) (fun x hx => HS.out.2.2.2.2.2.1 x hx);rw [← hct] at hbd;have hcb : 0 ≤ ct ∧ ct ≤ 1200 := by omega
                    rw [← hzf, ← hct];have HT := Lib.hid (And.intro hzf hct);have HO10 := Lib.hid hO10;clear hzf hct hbd hO10
                    go_upto_block 8 with fail
                    go_cut [23] from 147 to 169 (fun nd wy => nd = .int .i64 (tg + ct + swpT l k l.swps) ∧ Own w2.heap.size w2 [It.own 129 2 A n cO (spcs (slotS f k)) fp, It.gen q1 (SttH (some ⟨gA, oA, none⟩) c1 B1 d1 ⟨swpN p k l.swps (stN p l s k).brash, (stN p l s k).busy⟩), It.blk xb (.cells #[.slice (some ⟨gA, oA, none⟩) N c1, .slice B1 M d1] 81)] wy)
                    case first =>
                      go_wp2_with fail
                      go_loopg [23, 29] l.swps.length (fun g nd i wy => ∃ j : Nat, g + j = l.swps.length ∧ i = .int .i64 j ∧ nd = .int .i64 (tg + ct + swpT l k (l.swps.take j)) ∧ Own w2.heap.size w2 [It.own 129 2 A n cO (spcs (slotS f k)) fp, It.gen q1 (SttH (some ⟨gA, oA, none⟩) c1 B1 d1 ⟨swpN p k l.swps (stN p l s k).brash, (stN p l s k).busy⟩), It.blk xb (.cells #[.slice (some ⟨gA, oA, none⟩) N c1, .slice B1 M d1] 81)] wy)
                      case atStart => exact ⟨0, rfl, rfl, by simp [swpT], HO10.out⟩
                      case round =>
                        obtain ⟨j, hj, rfl, rfl, hO⟩ := hrel;obtain ⟨g0, g1, g2, g3, g4, g5, y0, y2⟩ := HC.out.1 wr hO.bel;obtain ⟨st, hst'⟩ : ∃ z, z = swpT l k (l.swps.take j) := ⟨_, rfl⟩;rw [← hst'];by_cases hlj : j < l.swps.length
                        · obtain ⟨b2, off2, eL, hbD2, hcell⟩ := (HC.out.2.2.1 wr hO.bel).swps.2 (by omega);obtain ⟨x, hx⟩ : ∃ x, x = l.swps[j] := ⟨_, rfl⟩;obtain ⟨r0, r1, r2⟩ := swcs_get hlj;rw [← hx] at r0 r1 r2;have d0 := hcell _ _ r0;have d2 : wr.cell? ⟨b2, off2 + j * 3 + 2, none⟩ = _ := hcell _ _ r2;have hxv := HS.out.2.2.2.2.1.sw l.swps[j] (List.getElem_mem _);rw [← hx] at hxv;have zb := World.block_lt_of_cell? _ _ d0;obtain ⟨ho, chn, tu⟩ := x;simp only at d0 d2 hxv zb;have hbd := swpT_bd l (k : Int) (L := l.swps.take j) (fun x hx => by have := HS.out.2.2.2.2.1.sw x (List.mem_of_mem_take hx); omega);have hbl : (l.swps.take j).length ≤ 200 := by rw [List.length_take]; omega
                          rw [← hst'] at hbd;have hsb' : 0 ≤ st ∧ st ≤ 4000 := by omega
                          have hs1 := swpT_snoc l (k : Int) ⟨ho, chn, tu⟩ (l.swps.take j);have htk : l.swps.take (j + 1) = l.swps.take j ++ [⟨ho, chn, tu⟩] := by rw [List.take_succ_eq_append_getElem hlj, ← hx]
                          rw [← htk, ← hst'] at hs1;simp only at hs1;have hjI : (0 : Int) ≤ (j : Int) ∧ (j : Int) < (l.swps.length : Int) := by omega
                          have HJ := Lib.hid (And.intro hO hs1);rw [eL] at g5;clear hO hs1 hcell r0 r1 r2 hbd hbl hx htk hst' eL g0 g1 g2 g3 g4 y0;by_cases hhk : ho = (k : Int)
                          · have hfc : swpT l k (l.swps.take (j + 1)) = st + tu := by rw [HJ.out.2, if_pos hhk]
                            have HE := Lib.hid hfc;have heb : (ho == (k : Int)) = true := by simp [hhk]
                            clear hfc hhk;go_wp2_with fail
                            go_roundg (gk - 1);case measure => omega
                            case rel => exact ⟨j + 1, by omega, by go_num, by rw [HE.out]; congr 1; omega, HJ.out.1⟩
                          · have hfc : swpT l k (l.swps.take (j + 1)) = st := by rw [HJ.out.2, if_neg hhk]; omega
                            have HE := Lib.hid hfc;have heb : (ho == (k : Int)) = false := by simpa using hhk
                            clear hfc hhk;go_wp2_with fail
                            go_roundg (gk - 1);case measure => omega
                            case rel => exact ⟨j + 1, by omega, by go_num, by rw [HE.out], HJ.out.1⟩
                        · obtain rfl : j = l.swps.length := by omega
                          rw [List.take_length] at hst';have HJ := Lib.hid (And.intro hO hst');clear hO hst' g0 g1 g2 g3 g4 y0;go_wp2_with fail
                          go_meet
                          exact ⟨by rw [HJ.out.2], HJ.out.1⟩
                    case rest =>
                      obtain ⟨rfl, hO11⟩ := hcut;obtain ⟨w11, rfl, hO11⟩ : ∃ wz, wz = _ ∧ Own w2.heap.size w2 [It.own 129 2 A n cO (spcs (slotS f k)) fp, It.gen q1 (SttH (some ⟨gA, oA, none⟩) c1 B1 d1 ⟨swpN p k l.swps (stN p l s k).brash, (stN p l s k).busy⟩), It.blk xb (.cells #[.slice (some ⟨gA, oA, none⟩) N c1, .slice B1 M d1] 81)] wz := ⟨_, rfl, hO11⟩;obtain ⟨nd, hnd⟩ : ∃ z, z = tg + ct + swpT l k l.swps := ⟨_, rfl⟩;rw [← hnd];have hok : f k = (zf && decide (nd ≤ p.tugs)) := by
                        rw [HC.out.2.2.2.2.2.1, HT.out.1, hnd, HT.out.2, HZ.out]; rfl
                      obtain ⟨g0, g1, g2, g3, g4, g5, y0, y2⟩ := HC.out.1 w11 hO11.bel;have HU := Lib.hid (And.intro hO11 hok);have hS := slotS_succ f k;have HSS := Lib.hid hS;clear hok hnd hS g0 g1 g3 g4 g5 y2;cases zf
                      · have hno : f k = false := by rw [HU.out.2]; rfl
                        have HN := Lib.hid hno;clear hno;go_wp2_with fail
                        go_roundg (G1 - 1);case measure => omega
                        case rel => exact ⟨k + 1, A, n, cO, fp, by omega, by go_num, by rw [HSS.out, HN.out]; exact HO.out.2, rfl, by rw [HSS.out, HN.out]; rfl, by have h := HU.out.1.take 1; rw [HSS.out, HN.out]; exact h⟩
                      · by_cases hgt : p.tugs < nd
                        · have hno : f k = false := by rw [HU.out.2, decide_eq_false (by omega)]; rfl
                          have HN := Lib.hid hno;clear hno;go_wp2_with fail
                          go_roundg (G1 - 1);case measure => omega
                          case rel => exact ⟨k + 1, A, n, cO, fp, by omega, by go_num, by rw [HSS.out, HN.out]; exact HO.out.2, rfl, by rw [HSS.out, HN.out]; rfl, by have h := HU.out.1.take 1; rw [HSS.out, HN.out]; exact h⟩
                        · have hyes : f k = true := by rw [HU.out.2, decide_eq_true (by omega)]; rfl
                          have hs2 : slotS f (k + 1) = spanAdd (slotS f k) k := by rw [HSS.out, hyes]; rfl
                          rw [spanAdd_last (by omega)] at hs2;obtain ⟨la, hla⟩ : ∃ x, x = lastHi (slotS f k) := ⟨_, rfl⟩;rw [← hla] at hs2 ⊢;have hlt2 : lastHi (slotS f (k + 1)) = k := by rw [HSS.out, hyes]; exact lastHi_add _ _
                          have hlb : -2 ≤ la ∧ la < k := ⟨by rw [hla]; exact lastHi_ge f k, by rw [hla]; exact lastHi_lt f k⟩;have hn100 : n ≤ 100 := by have := HO.out.2; have := slotS_len f k; omega
                          have HV := Lib.hid (And.intro hs2 (And.intro hla hlt2));have OB : OwnS w11 129 2 A n cO (spcs (slotS f k)) fp := HU.out.1.owns 0 rfl;have HOB := Lib.hid OB;clear hyes hs2 hla hlt2 OB;by_cases hq1 : la = (k : Int) - 1
                          · have hqb : (la == (k : Int) - 1) = true := by simp [hq1]
                            have hne : slotS f k ≠ [] := fun e => by
                              have := HV.out.2.1;rw [e] at this;have h9 : lastHi [] = -2 := rfl;omega
                            obtain ⟨L', sL, hL⟩ : ∃ L' sL, slotS f k = L' ++ [sL] := by
                              rcases List.eq_nil_or_concat (slotS f k) with e | ⟨L', s', e⟩
                              · exact absurd e hne
                              · exact ⟨L', s', by rw [e, List.concat_eq_append]⟩
                            obtain ⟨m, hm⟩ : ∃ m, m = L'.length := ⟨_, rfl⟩;have hnm : n = m + 1 := by rw [HO.out.2, hL, hm]; simp
                            subst hnm;obtain ⟨go', rfl, hfp, zgo, hgc, hgf⟩ := HOB.out.some_ (by omega);have c9 : w11.cell? ⟨go', m * 2 + 1, none⟩ = some (.int .i64 sL.2) := hgc _ _ (by rw [hL, spcs_append, List.getElem?_append_right (by rw [spcs_length]; omega), spcs_length, ← hm]; simp [spcs, spc]);have f9 := hgf (m * 2 + 1);have hsub : (((m + 1 : Nat) : Int) - 1) = (m : Int) := by omega
                            have hmI : (0 : Int) ≤ (m : Int) ∧ (m : Int) < ((m + 1 : Nat) : Int) := by omega
                            have HL := Lib.hid (And.intro hL (And.intro hm (And.intro hfp hq1)));have HSUB := Lib.hid hsub;clear hL hm hgc hgf hne hfp hsub hq1;go_wp2_with fail
                            have hs3 : slotS f (k + 1) = L' ++ [(sL.1, (k : Int))] := by
                              have h := HV.out.1;rw [if_pos HL.out.2.2.2, HL.out.1] at h;rw [h]; simp
                            have hl3 : (slotS f (k + 1)).length = m + 1 := by rw [hs3, HL.out.2.1]; simp
                            have OF : Own w2.heap.size w2 [It.own 129 2 (some ⟨go', 0, none⟩) (m + 1) cO (spcs (slotS f (k + 1))) fp] (w11.setCell ⟨go', m * 2 + 1, none⟩ (.int .i64 k)) := by
                              have h := (HU.out.1.take 1).upd 0 rfl (w' := w11.setCell ⟨go', m * 2 + 1, none⟩ (.int .i64 k)) (i' := .own 129 2 (some ⟨go', 0, none⟩) (m + 1) cO (spcs (slotS f (k + 1))) fp) ((Keep.refl _ _).setCell (.inl (by simp only [It.fp]; rw [HL.out.2.2.1]; simp)) _) (by
                                have h5 := HOB.out.set_ (m * 2 + 1) (.int .i64 k);have h6 : (spcs (slotS f k)).set (m * 2 + 1) (.int .i64 k) = spcs (slotS f (k + 1)) := by
                                  rw [hs3, HL.out.1, spcs_append, spcs_append, List.set_append_right _ _ (by rw [spcs_length]; have := HL.out.2.1; omega), spcs_length, ← HL.out.2.1];simp [spc, spcs]
                                rw [h6] at h5;exact h5) (fun x hx => .inl hx)
                              exact h
                            have HOF := Lib.hid (And.intro OF hl3);clear hs3 hl3 OF;go_roundg (G1 - 1);case measure => omega
                            case rel => exact ⟨k + 1, some ⟨go', 0, none⟩, m + 1, cO, fp, by omega, by go_num, HOF.out.2.symm, rfl, by rw [HV.out.2.2], HOF.out.1⟩
                          · have hqb : (la == (k : Int) - 1) = false := by simpa using hq1
                            have HQ1 := Lib.hid hq1;clear hq1
                            go_wp2_with (at_builtin
                                         (
                                           refine wpList_append_S (size := 2) rfl (.tmp 189) (.tmp 193) 119 rfl iV0 _ 16 Try.underlying119 iV1 iV2 iV3 (by decide) iV4 rfl (A := A) (n := n) (c := cO) (xs := spcs (slotS f k)) (fp := fp) (by simp [Act.eval]) ⟨w11.heap.size, 0, none⟩ (by simp [Act.eval]) [.int .i64 k, .int .i64 k] (HOB.out.alloc _) rfl ?_ (by simp [Value.oneCell']) (by omega) (by omega) ?_
                                           · intro i v hv;rw [show (⟨w11.heap.size, 0, none⟩ : Addr).add i = ⟨w11.heap.size, i, none⟩ from by simp [Addr.add]; omega, World.cell?_alloc_new];simpa using hv
                                           intro gg c' w12 q1 q2 q3 q4;have SA := (HU.out.1.take 1).below ((Below.refl w11.heap.size w11).alloc (Nat.le_refl _) (.cells #[.int .i64 k, .int .i64 k] 129));have SB := SA.upd 0 rfl (i' := .own 129 2 (some ⟨gg, 0, none⟩) (n + 1) c' (spcs (slotS f k) ++ spc ((k : Int), (k : Int))) [gg]) q4 q1 (fun x hx => by rw [List.mem_singleton.1 hx]; rcases q2 with e | e; exact .inl e; exact .inr (Nat.le_of_eq e));have HSB := Lib.hid SB;clear SA SB q1 q2 q3 q4))
                            have hs3 : slotS f (k + 1) = slotS f k ++ [((k : Int), (k : Int))] := by
                              have h := HV.out.1;rw [if_neg HQ1.out] at h;exact h
                            have hl3 : (slotS f (k + 1)).length = n + 1 := by rw [hs3, HO.out.2]; simp
                            have OF : Own w2.heap.size w2 [It.own 129 2 (some ⟨gg, 0, none⟩) (n + 1) c' (spcs (slotS f (k + 1))) [gg]] w12 := by
                              have e : spcs (slotS f k) ++ spc ((k : Int), (k : Int)) = spcs (slotS f (k + 1)) := by rw [hs3, spcs_append]; simp [spcs]
                              have h := HSB.out;rw [e] at h;exact h
                            have HOF := Lib.hid (And.intro OF hl3);clear hs3 hl3 OF;go_roundg (G1 - 1);case measure => omega
                            case rel => exact ⟨k + 1, some ⟨gg, 0, none⟩, n + 1, c', [gg], by omega, by go_num, HOF.out.2.symm, rfl, by rw [HV.out.2.2], HOF.out.1⟩
              · obtain rfl : k = H := by omega
                have ho := hO.owns 0 rfl;have hslen : slotV p s l q mo tg = slotS f l.hours.toNat := by unfold slotV; rw [if_pos (by rw [HY.out, HR.out.2]), HC.out.2.2.2.2.2.1]
                have hHr := HG.out.2.2.2.2.2.2.2.2;have HF := Lib.hid (And.intro hslen (And.intro ho.rd (And.intro hn (And.intro (HC.out.2.2.2.2.2.2.2.1.trans (hO.bel.mono HC.out.2.2.2.2.2.2.2.1.size)) hHr))));clear ho hslen hn hO hHr;go_wp2_with fail
                go_ret2
                refine ⟨A, cO, ?_, ?_, HF.out.2.2.2.1⟩
                · rw [HF.out.1, HY.out, HR.out.2, ← HF.out.2.2.2.2, ← HF.out.2.2.1]; rfl
                · rw [HF.out.1, ← HF.out.2.2.2.2, ← HF.out.2.2.1]; exact HF.out.2.1
          · have ks := HS.out.1.mono fun e w' h => h.no hr;obtain ⟨i0, hi0⟩ : ∃ x : Int, x = (runR p l s).1 := ⟨_, rfl⟩;obtain ⟨e0, he0⟩ : ∃ x, x = (runR p l s).2 := ⟨_, rfl⟩;rw [← hi0, ← he0] at ks;have hne : (e0 != 0) = true := by rw [he0]; simpa using hr
            have HR := Lib.hid (And.intro ks (And.intro (show e0 ≠ 0 by rw [he0]; exact hr) he0));clear ks hr hi0 he0;go_wp2_with (first | (go_at_call 102; refine (rin9_any _ _ _ _).mono ?_; rintro e w' ⟨rfl, rfl⟩) | (go_at_call 94; refine HR.out.1.mono ?_; rintro e w2 ⟨rfl, hb⟩; have HQ := Lib.hid hb; clear hb))
            go_ret2
            exact slots_no (by rw [HY.out]; exact HR.out.2.2.symm) HR.out.2.1 (O1.out.bel.trans (HQ.out.mono O1.out.bel.size))
  · have hne0 : (er != 0) = true := by simp [h0]
    have HH := Lib.hid h0;clear h0;go_wp2_with fail
    go_ret2
    exact slots_no (by unfold slotE; rw [if_pos (by rw [← HG.out.2.2.2.2.2.1]; exact HH.out), ← HG.out.2.2.2.2.2.1]) HH.out O1.out.bel
end Go.Proofs.Ythmldeningpjbaa
namespace Go.Proofs.Ythmldeningpjbaa
open Go Go.RowKit Sp Pt
theorem runE_start {p : Prt} {s : Stt} {l : Pln} (h : runE p s l = 0) : startE p s l = 0 := by
  unfold runE at h;split at h
  · next h1 => exact absurd h h1
  · next h1 => exact Decidable.not_not.1 h1
theorem start_hours {p : Prt} {s : Stt} {l : Pln} (h : startE p s l = 0) : l.hours.toNat ≤ 100 := by
  have h1 := (checkL_ok (start_bd h).1).2.2.1;omega
theorem runV_short {p : Prt} {s : Stt} {l : Pln} (hs : s.brash.length ≤ 10 ∧ s.busy.length ≤ 10) : (runV p s l).brash.length ≤ 1000 ∧ (runV p s l).busy.length ≤ 1000 := by
  have h1 := stN_lens p l s l.hours.toNat;unfold runV;split
  · omega
  · simp
theorem traceV_short {p : Prt} {s : Stt} {l : Pln} (hs : s.brash.length ≤ 10 ∧ s.busy.length ≤ 10) : (traceV p s l).length ≤ 1000 ∧ ∀ x ∈ traceV p s l, x.length ≤ 1000 := by
  unfold traceV;split
  · next h =>
    have h1 := start_hours (runE_start h);refine ⟨by simp [traceS]; omega, fun x hx => ?_⟩;simp only [traceS, List.mem_map] at hx;obtain ⟨j, -, rfl⟩ := hx;have h2 := stN_lens p l s j;omega
  · simp
theorem slotV_short {p : Prt} {s : Stt} {l : Pln} {b m t : Int} : (slotV p s l b m t).length ≤ 1000 := by
  unfold slotV;split
  · next h =>
    have h0 : startE p s l = 0 := by
      unfold slotE at h;split at h
      · next h1 => exact absurd h h1
      · next h1 => exact Decidable.not_not.1 h1
    have h1 := start_hours h0;have h2 := slotS_len (slotOk p s l (bt p b).path m t) l.hours.toNat;omega
  · simp
end Go.Proofs.Ythmldeningpjbaa
