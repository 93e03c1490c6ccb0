import Derived.Test.YtalcinepeofmcaaGreatPBp28
import Derived.Test.YtalcinepeofmcaaGreatPBp2
set_option linter.unusedVariables false
set_option linter.unusedSimpArgs false
set_option maxRecDepth 100000
set_option maxHeartbeats 40000000
namespace Go.Proofs.YtalcinepeofmcaaGreat
open Go Go.RowKit Sp Pt Hu
def Later (w : World) (P : World → Prop) : Prop := ∀ w', Below w.heap.size w w' → P w'
section
variable {w w' : World} {P Q : World → Prop}
theorem Later.step (h : Later w P) (b : Below w.heap.size w w') : Later w' P := fun x hx => h x (b.trans (hx.mono b.size))
theorem Later.and (h : Later w P) (k : Later w Q) : Later w (fun x => P x ∧ Q x) := fun x hx => ⟨h x hx, k x hx⟩
theorem Later.now (h : Later w P) : P w := h w (Below.refl _ _)
theorem Later.rd {size : Nat} {A : Option Addr} {n : Nat} {xs : List Value} (h : Rd w size A n xs) : Later w (fun x => Rd x size A n xs) := fun x hx => h.below hx
theorem Later.blk {b : Nat} {o : Obj} (h : w.heap[b]? = some o) : Later w (fun x => x.heap[b]? = some o) := fun x hx => (hx.block _ (hL_ h)).trans h
theorem Later.prt {A : Option Addr} {c : Nat} {B : Option Addr} {d : Nat} {p : Prt} (h : PrtB w.heap.size w A c B d p) : Later w (fun x => PrtB x.heap.size x A c B d p) := fun x hx => (h.below hx).mono hx.size
end
theorem vscs_snoc {l : List Vst} {k : Nat} (h : k < l.length) : vscs (l.take k) ++ [.int .i64 l[k].arr, .int .i64 l[k].last, .int .i64 l[k].stay, .int .i64 l[k].dra] = vscs (l.take (k + 1)) := by
  unfold vscs;rw [List.take_succ_eq_append_getElem h, List.flatMap_append];rfl
theorem plcs_snoc {l : List Plc} {k : Nat} (h : k < l.length) : plcs (l.take k) ++ [.int .i64 l[k].berth, .int .i64 l[k].start] = plcs (l.take (k + 1)) := by
  unfold plcs;rw [List.take_succ_eq_append_getElem h, List.flatMap_append];rfl
theorem vscs_one (l : List Vst) : ∀ u ∈ vscs l, u.oneCell' = true := by
  intro u hu;obtain ⟨x, _, hx⟩ := List.mem_flatMap.1 hu;simp [vsc] at hx;rcases hx with rfl | rfl | rfl | rfl <;> rfl
theorem plcs_one (l : List Plc) : ∀ u ∈ plcs l, u.oneCell' = true := by
  intro u hu;obtain ⟨x, _, hx⟩ := List.mem_flatMap.1 hu;simp [plc] at hx;rcases hx with rfl | rfl <;> rfl
theorem infoRVst : (Tryz.prog.info? 54).map (fun i => (i.zero, i.size, i.bytes)) = some (some (.agg #[.int .i64 0, .int .i64 0, .int .i64 0, .int .i64 0]), 4, 32) := by kernel_rfl
theorem portBerths_any (Ac : Option Addr) (cc : Nat) (Ab : Option Addr) (cb : Nat) (p : Prt) (Av : Option Addr) (cv : Nat) (l : List Vst) (Aa : Option Addr) (ca : Nat) (a : List Plc) (At : Option Addr) (ct : Nat) (Aw : Option Addr) (cw : Nat) (Ai : Option Addr) (ci : Nat) (s : Shp) (w : World)
    (PB : PrtB w.heap.size w Ac cc Ab cb p) (VB : Rd w 4 Av l.length (vscs l)) (AB : Rd w 2 Aa a.length (plcs a)) (R1 : Rd w 2 At s.thr.length (pnts s.thr)) (R2 : Rd w 2 Aw s.wat.length (pnts s.wat)) (R3 : Rd w 2 Ai s.ice.length (pnts s.ice))
    (hcv : Av = none → l.length = 0 ∧ cv = 0) (hca : Aa = none → a.length = 0 ∧ ca = 0) (hcs : (At = none → ct = 0) ∧ (Aw = none → cw = 0) ∧ (Ai = none → ci = 0)) :
    Calls Tryz.prog 3 #[.agg (prtV Ac cc Ab cb p), .slice Av l.length cv, .slice Aa a.length ca, .agg (shpV At ct Aw cw Ai ci s)] w fun e w' => e = .returned (.bool true) ∧ Below w.heap.size w w' := by
  obtain ⟨W, hW⟩ : ∃ W, W = (w.alloc (.cells (prtV Ac cc Ab cb p) 25)).alloc (.cells (shpV At ct Aw cw Ai ci s) 30) := ⟨_, rfl⟩;obtain ⟨pb, hpb⟩ : ∃ b, b = w.heap.size := ⟨_, rfl⟩;obtain ⟨sb, hsb⟩ : ∃ b, b = pb + 1 := ⟨_, rfl⟩;have hh1 : W.heap[pb]? = some (.cells (prtV Ac cc Ab cb p) 25 (0, 0)) := by rw [hW, hpb]; exact hA_ (heap_alloc_new _ _) _
  have hh2 : W.heap[sb]? = some (.cells (shpV At ct Aw cw Ai ci s) 30 (0, 0)) := by
    rw [hW, hsb, hpb];have := heap_alloc_new (w.alloc (.cells (prtV Ac cc Ab cb p) 25)) (.cells (shpV At ct Aw cw Ai ci s) 30)
    rwa [World.size_alloc] at this
  have b0 : Below w.heap.size w W := by rw [hW]; exact ((Below.refl _ _).alloc (Nat.le_refl _) _).alloc (by simp) _
  have L0 : Later W (fun x => (PrtB x.heap.size x Ac cc Ab cb p ∧ Rd x 4 Av l.length (vscs l) ∧ Rd x 2 Aa a.length (plcs a)) ∧ (Rd x 2 At s.thr.length (pnts s.thr) ∧ Rd x 2 Aw s.wat.length (pnts s.wat) ∧ Rd x 2 Ai s.ice.length (pnts s.ice)) ∧ x.heap[pb]? = some (.cells (prtV Ac cc Ab cb p) 25 (0, 0)) ∧ x.heap[sb]? = some (.cells (shpV At ct Aw cw Ai ci s) 30 (0, 0))) :=
    fun x hx => ⟨(((Later.prt PB).and ((Later.rd VB).and (Later.rd AB))).step b0) x hx, (((Later.rd R1).and ((Later.rd R2).and (Later.rd R3))).step b0) x hx, (Later.blk hh1) x hx, (Later.blk hh2) x hx⟩
  obtain ⟨hv, hhv⟩ : ∃ b, b = heavyB p ⟨0, [], []⟩ 0 0 := ⟨_, rfl⟩;have kh := heavy_any W.heap.size Ac cc Ab cb p none 0 none 0 ⟨0, [], []⟩ none 0 0 none 0 0 W L0.now.1.1 (Nat.le_refl _);rw [← hhv] at kh;have p0 : W.cell? ⟨pb, 0, none⟩ = some (.slice Ac p.chs.length cc) := (cOH hh1 0).trans rfl;have p1 : W.cell? ⟨pb, 1, none⟩ = some (.slice Ab p.bts.length cb) := (cOH hh1 1).trans rfl;have p2 : W.cell? ⟨pb, 2, none⟩ = some (.int .i64 p.tugs) := (cOH hh1 2).trans rfl;have zp := hL_ hh1;obtain ⟨n, hn⟩ : ∃ n, n = l.length := ⟨_, rfl⟩;obtain ⟨m, hm⟩ : ∃ n, n = a.length := ⟨_, rfl⟩;obtain ⟨nt, hnt⟩ : ∃ n, n = s.thr.length := ⟨_, rfl⟩;obtain ⟨nw, hnw⟩ : ∃ n, n = s.wat.length := ⟨_, rfl⟩;obtain ⟨ni, hni⟩ : ∃ n, n = s.ice.length := ⟨_, rfl⟩;have H := Lib.hid (And.intro b0 (And.intro L0 (And.intro hhv (And.intro kh (And.intro hcv (And.intro hca hcs))))));have HN := Lib.hid (And.intro hn (And.intro hm (And.intro hnt (And.intro hnw hni))));rw [← hn, ← hm];clear PB VB AB R1 R2 R3 hcv hca hcs b0 L0 hhv kh hh1 hh2 hn hm hnt hnw hni
  go_enter Tryz.func3, Tryz.ntmps3
  go_upto_region 1 with fail
  rw [← hW, ← hpb, ← hsb];clear hW hpb hsb;obtain ⟨g, hg⟩ : ∃ g, g = (hv || (decide (n = 5) || (decide (8 < n) || (decide (10 < m) || (decide (20 < nt) || (decide (20 < nw) || decide (20 < ni))))))) := ⟨_, rfl⟩
  go_cut [63] from 27 to 63 (fun b wx => b = .bool g ∧ Below W.heap.size W wx)
  case first =>
    cases hv
    · have TT := True.intro;by_cases h0 : n = 5
      · have d0 : ((n : Int) == 5) = true := by simp; omega
        have hh0 := Lib.hid h0;clear h0;have HG := Lib.hid hg;clear hg;go_wp2_with (go_at_call 4; refine H.out.2.2.2.1.mono ?_; rintro e w1 ⟨rfl, b1⟩; have B1 := Lib.hid b1; clear b1; have h2 := (H.out.2.1 _ B1.out).2.2.2; have x4 : w1.cell? ⟨sb, 4, none⟩ = some (.slice At nt ct) := (cOH h2 4).trans (by rw [HN.out.2.2.1]; rfl); have x5 : w1.cell? ⟨sb, 5, none⟩ = some (.slice Aw nw cw) := (cOH h2 5).trans (by rw [HN.out.2.2.2.1]; rfl); have x6 : w1.cell? ⟨sb, 6, none⟩ = some (.slice Ai ni ci) := (cOH h2 6).trans (by rw [HN.out.2.2.2.2]; rfl); have zs := hL_ h2; clear h2)
        go_meet
        exact ⟨by rw [HG.out]; simp [hh0.out], B1.out⟩
      · have d0 : ((n : Int) == 5) = false := by simp; omega
        have hh0 := Lib.hid h0;clear h0;by_cases h1 : 8 < n
        · have d1 : decide ((8 : Int) < (n : Int)) = true := by simp; omega
          have hh1 := Lib.hid h1;clear h1;have HG := Lib.hid hg;clear hg;go_wp2_with (go_at_call 4; refine H.out.2.2.2.1.mono ?_; rintro e w1 ⟨rfl, b1⟩; have B1 := Lib.hid b1; clear b1; have h2 := (H.out.2.1 _ B1.out).2.2.2; have x4 : w1.cell? ⟨sb, 4, none⟩ = some (.slice At nt ct) := (cOH h2 4).trans (by rw [HN.out.2.2.1]; rfl); have x5 : w1.cell? ⟨sb, 5, none⟩ = some (.slice Aw nw cw) := (cOH h2 5).trans (by rw [HN.out.2.2.2.1]; rfl); have x6 : w1.cell? ⟨sb, 6, none⟩ = some (.slice Ai ni ci) := (cOH h2 6).trans (by rw [HN.out.2.2.2.2]; rfl); have zs := hL_ h2; clear h2)
          go_meet
          exact ⟨by rw [HG.out]; simp [hh0.out, hh1.out], B1.out⟩
        · have d1 : decide ((8 : Int) < (n : Int)) = false := by simp; omega
          have hh1 := Lib.hid h1;clear h1;by_cases h2 : 10 < m
          · have d2 : decide ((10 : Int) < (m : Int)) = true := by simp; omega
            have hh2 := Lib.hid h2;clear h2;have HG := Lib.hid hg;clear hg;go_wp2_with (go_at_call 4; refine H.out.2.2.2.1.mono ?_; rintro e w1 ⟨rfl, b1⟩; have B1 := Lib.hid b1; clear b1; have h2 := (H.out.2.1 _ B1.out).2.2.2; have x4 : w1.cell? ⟨sb, 4, none⟩ = some (.slice At nt ct) := (cOH h2 4).trans (by rw [HN.out.2.2.1]; rfl); have x5 : w1.cell? ⟨sb, 5, none⟩ = some (.slice Aw nw cw) := (cOH h2 5).trans (by rw [HN.out.2.2.2.1]; rfl); have x6 : w1.cell? ⟨sb, 6, none⟩ = some (.slice Ai ni ci) := (cOH h2 6).trans (by rw [HN.out.2.2.2.2]; rfl); have zs := hL_ h2; clear h2)
            go_meet
            exact ⟨by rw [HG.out]; simp [hh0.out, hh1.out, hh2.out], B1.out⟩
          · have d2 : decide ((10 : Int) < (m : Int)) = false := by simp; omega
            have hh2 := Lib.hid h2;clear h2;by_cases h3 : 20 < nt
            · have d3 : decide ((20 : Int) < (nt : Int)) = true := by simp; omega
              have hh3 := Lib.hid h3;clear h3;have HG := Lib.hid hg;clear hg;go_wp2_with (go_at_call 4; refine H.out.2.2.2.1.mono ?_; rintro e w1 ⟨rfl, b1⟩; have B1 := Lib.hid b1; clear b1; have h2 := (H.out.2.1 _ B1.out).2.2.2; have x4 : w1.cell? ⟨sb, 4, none⟩ = some (.slice At nt ct) := (cOH h2 4).trans (by rw [HN.out.2.2.1]; rfl); have x5 : w1.cell? ⟨sb, 5, none⟩ = some (.slice Aw nw cw) := (cOH h2 5).trans (by rw [HN.out.2.2.2.1]; rfl); have x6 : w1.cell? ⟨sb, 6, none⟩ = some (.slice Ai ni ci) := (cOH h2 6).trans (by rw [HN.out.2.2.2.2]; rfl); have zs := hL_ h2; clear h2)
              go_meet
              exact ⟨by rw [HG.out]; simp [hh0.out, hh1.out, hh2.out, hh3.out], B1.out⟩
            · have d3 : decide ((20 : Int) < (nt : Int)) = false := by simp; omega
              have hh3 := Lib.hid h3;clear h3;by_cases h4 : 20 < nw
              · have d4 : decide ((20 : Int) < (nw : Int)) = true := by simp; omega
                have hh4 := Lib.hid h4;clear h4;have HG := Lib.hid hg;clear hg;go_wp2_with (go_at_call 4; refine H.out.2.2.2.1.mono ?_; rintro e w1 ⟨rfl, b1⟩; have B1 := Lib.hid b1; clear b1; have h2 := (H.out.2.1 _ B1.out).2.2.2; have x4 : w1.cell? ⟨sb, 4, none⟩ = some (.slice At nt ct) := (cOH h2 4).trans (by rw [HN.out.2.2.1]; rfl); have x5 : w1.cell? ⟨sb, 5, none⟩ = some (.slice Aw nw cw) := (cOH h2 5).trans (by rw [HN.out.2.2.2.1]; rfl); have x6 : w1.cell? ⟨sb, 6, none⟩ = some (.slice Ai ni ci) := (cOH h2 6).trans (by rw [HN.out.2.2.2.2]; rfl); have zs := hL_ h2; clear h2)
                go_meet
                exact ⟨by rw [HG.out]; simp [hh0.out, hh1.out, hh2.out, hh3.out, hh4.out], B1.out⟩
              · have d4 : decide ((20 : Int) < (nw : Int)) = false := by simp; omega
                have hh4 := Lib.hid h4;clear h4;by_cases h5 : 20 < ni
                · have d5 : decide ((20 : Int) < (ni : Int)) = true := by simp; omega
                  have hh5 := Lib.hid h5;clear h5;have HG := Lib.hid hg;clear hg;go_wp2_with (go_at_call 4; refine H.out.2.2.2.1.mono ?_; rintro e w1 ⟨rfl, b1⟩; have B1 := Lib.hid b1; clear b1; have h2 := (H.out.2.1 _ B1.out).2.2.2; have x4 : w1.cell? ⟨sb, 4, none⟩ = some (.slice At nt ct) := (cOH h2 4).trans (by rw [HN.out.2.2.1]; rfl); have x5 : w1.cell? ⟨sb, 5, none⟩ = some (.slice Aw nw cw) := (cOH h2 5).trans (by rw [HN.out.2.2.2.1]; rfl); have x6 : w1.cell? ⟨sb, 6, none⟩ = some (.slice Ai ni ci) := (cOH h2 6).trans (by rw [HN.out.2.2.2.2]; rfl); have zs := hL_ h2; clear h2)
                  go_meet
                  exact ⟨by rw [HG.out]; simp [hh0.out, hh1.out, hh2.out, hh3.out, hh4.out, hh5.out], B1.out⟩
                · have d5 : decide ((20 : Int) < (ni : Int)) = false := by simp; omega
                  have hh5 := Lib.hid h5;clear h5;have HG := Lib.hid hg;clear hg;go_wp2_with (go_at_call 4; refine H.out.2.2.2.1.mono ?_; rintro e w1 ⟨rfl, b1⟩; have B1 := Lib.hid b1; clear b1; have h2 := (H.out.2.1 _ B1.out).2.2.2; have x4 : w1.cell? ⟨sb, 4, none⟩ = some (.slice At nt ct) := (cOH h2 4).trans (by rw [HN.out.2.2.1]; rfl); have x5 : w1.cell? ⟨sb, 5, none⟩ = some (.slice Aw nw cw) := (cOH h2 5).trans (by rw [HN.out.2.2.2.1]; rfl); have x6 : w1.cell? ⟨sb, 6, none⟩ = some (.slice Ai ni ci) := (cOH h2 6).trans (by rw [HN.out.2.2.2.2]; rfl); have zs := hL_ h2; clear h2)
                  go_meet
                  exact ⟨by rw [HG.out]; simp [hh0.out, hh1.out, hh2.out, hh3.out, hh4.out, hh5.out], B1.out⟩
    · have TT := True.intro;have HG := Lib.hid hg;clear hg;go_wp2_with (go_at_call 4; refine H.out.2.2.2.1.mono ?_; rintro e w1 ⟨rfl, b1⟩; have B1 := Lib.hid b1; clear b1; have h2 := (H.out.2.1 _ B1.out).2.2.2; have x4 : w1.cell? ⟨sb, 4, none⟩ = some (.slice At nt ct) := (cOH h2 4).trans (by rw [HN.out.2.2.1]; rfl); have x5 : w1.cell? ⟨sb, 5, none⟩ = some (.slice Aw nw cw) := (cOH h2 5).trans (by rw [HN.out.2.2.2.1]; rfl); have x6 : w1.cell? ⟨sb, 6, none⟩ = some (.slice Ai ni ci) := (cOH h2 6).trans (by rw [HN.out.2.2.2.2]; rfl); have zs := hL_ h2; clear h2)
      go_meet
      exact ⟨by rw [HG.out]; simp, B1.out⟩
  case rest =>
  obtain ⟨rfl, bz⟩ := hcut;obtain ⟨wz, rfl, bz⟩ : ∃ wz, wz = _ ∧ Below W.heap.size W wz := ⟨_, rfl, bz⟩
  apply_assumption
  have HG := Lib.hid hg;have L1 := H.out.2.1.step bz;have bwz := H.out.1.trans (bz.mono H.out.1.size);clear bz hg p0 p1 p2 zp;cases g
  · have hf := HG.out.symm;simp only [Bool.or_eq_false_iff, decide_eq_false_iff_not, Nat.not_lt] at hf;obtain ⟨f1, f2, f3, f4, f5, f6, f7⟩ := hf;have hlg := (heavy_no (H.out.2.2.1.symm.trans f1)).1;have hb1 := L1.now.2.2.1;have p0 : wz.cell? ⟨pb, 0, none⟩ = some (.slice Ac p.chs.length cc) := (cOH hb1 0).trans rfl;have p1 : wz.cell? ⟨pb, 1, none⟩ = some (.slice Ab p.bts.length cb) := (cOH hb1 1).trans rfl;have p2 : wz.cell? ⟨pb, 2, none⟩ = some (.int .i64 p.tugs) := (cOH hb1 2).trans rfl;have zp := hL_ hb1;have H1 := Lib.hid (And.intro L1 bwz);have HS := Lib.hid (And.intro hlg (And.intro f5 (And.intro f6 f7)));clear L1 bwz hb1 hlg f1 f2 f5 f6 f7;go_upto_region 4 with (first | (go_at_call 6; refine (copyPort_own wz.heap.size Ac cc Ab cb p wz H1.out.1.now.1.1 (Nat.le_refl _) (by have := HS.out.1.n1; omega) (by have := HS.out.1.n2; omega) (fun b hb => by have := HS.out.1.n3 b hb; omega)).mono ?_; intro e w2 hc; obtain ⟨A1, c1, B1, d1, rfl, P1, b2⟩ := hc.new.use; have H2 := Lib.hid (And.intro ((H1.out.1.step b2).and (Later.prt P1)) (H1.out.2.trans (b2.mono H1.out.2.size))); clear hc P1 b2) | (go_at_call 7; refine (cloneVst_any Av n cv (vscs l) w2 (by rw [HN.out.1]; exact H2.out.1.now.1.1.2.1) (vscs_one l) (fun e => by rw [HN.out.1]; exact H.out.2.2.2.2.1 e) (by omega)).mono ?_; rintro e w3 ⟨O1, o1, q3, rfl, S3, _, b3⟩; have H3 := Lib.hid (And.intro ((H2.out.1.step b3).and (Later.rd S3.rd)) (H2.out.2.trans (b3.mono H2.out.2.size))); clear S3 b3) | (go_at_call 8; refine (clonePlc_any Aa m ca (plcs a) w3 (by rw [HN.out.2.1]; exact H3.out.1.now.1.1.1.2.2) (plcs_one a) (fun e => by rw [HN.out.2.1]; exact H.out.2.2.2.2.2.1 e) (by omega)).mono ?_; rintro e w4 ⟨G1, g1, q4, rfl, S4, _, b4⟩; have H4 := Lib.hid (And.intro ((H3.out.1.step b4).and (Later.rd S4.rd)) (And.intro (H3.out.2.trans (b4.mono H3.out.2.size)) (And.intro S4.ge S4.cap))); clear S4 b4))
    obtain ⟨W5, hW5⟩ : ∃ X, X = w4.alloc (.cells (prtV A1 c1 B1 d1 p) 25) := ⟨_, rfl⟩;obtain ⟨qb, hqb⟩ : ∃ b, b = w4.heap.size := ⟨_, rfl⟩;have b5 : Below w4.heap.size w4 W5 := by rw [hW5]; exact (Below.refl _ _).alloc (Nat.le_refl _) _
    have hq5 : W5.heap[qb]? = some (.cells (prtV A1 c1 B1 d1 p) 25 (0, 0)) := by rw [hW5, hqb]; exact heap_alloc_new _ _
    have H5 := Lib.hid (And.intro ((H4.out.1.step b5).and (Later.blk hq5)) (And.intro (H4.out.2.1.trans (b5.mono H4.out.2.1.size)) H4.out.2.2));rw [← hW5, ← hqb];clear hW5 hqb b5 hq5 p0 p1 p2 zp;have hb5 := H5.out.1.now.1.1.1.1.2.2.1;have p0 : W5.cell? ⟨pb, 0, none⟩ = some (.slice Ac p.chs.length cc) := (cOH hb5 0).trans rfl;have p1 : W5.cell? ⟨pb, 1, none⟩ = some (.slice Ab p.bts.length cb) := (cOH hb5 1).trans rfl;have p2 : W5.cell? ⟨pb, 2, none⟩ = some (.int .i64 p.tugs) := (cOH hb5 2).trans rfl;have zp := hL_ hb5;clear hb5;go_upto_region 5 with (go_at_call 9; refine (portR_any Ac cc Ab cb p W5 H5.out.1.now.1.1.1.1.1.1 (by have := HS.out.1.n1; omega) (by have := HS.out.1.n2; omega) (fun b hb => by have := HS.out.1.n3 b hb; omega)).mono ?_; intro e w6 hc; obtain ⟨A2, c2, B2, d2, rfl, P2, b6⟩ := hc.use; have H6 := Lib.hid (And.intro ((H5.out.1.step b6).and (Later.prt P2)) (H5.out.2.1.trans (b6.mono H5.out.2.1.size))); clear hc P2 b6)
    obtain ⟨W7, hW7⟩ : ∃ X, X = w6.alloc (.cells (prtV A2 c2 B2 d2 p) 51) := ⟨_, rfl⟩;obtain ⟨rb, hrb⟩ : ∃ b, b = w6.heap.size := ⟨_, rfl⟩;have b7 : Below w6.heap.size w6 W7 := by rw [hW7]; exact (Below.refl _ _).alloc (Nat.le_refl _) _
    have hr7 : W7.heap[rb]? = some (.cells (prtV A2 c2 B2 d2 p) 51 (0, 0)) := by rw [hW7, hrb]; exact heap_alloc_new _ _
    have H7 := Lib.hid (And.intro ((H6.out.1.step b7).and (Later.blk hr7)) (H6.out.2.trans (b7.mono H6.out.2.size)));rw [← hW7, ← hrb];clear hW7 hrb b7 hr7 p0 p1 p2 zp
    go_upto_block 0 with fail
    go_cut [13] from 73 to 83 (fun v wx => ∃ (B : Option Addr) (d : Nat), v = .slice B n d ∧ Rd wx 4 B n (vscs l) ∧ Below W7.heap.size W7 wx)
    case first =>
      obtain ⟨i0, hi0, hz0, hz1, hz2⟩ := info_parts infoRVst;have O0 : Own W7.heap.size W7 [.own 54 4 none 0 0 [] []] W7 := by
        have h := (Own.start W7).new (i := .own 54 4 none 0 0 [] []) (Below.refl _ _) (OwnS.nil _ _ _) (by simp [It.fp]);simpa using h
      have HO := Lib.hid O0;clear O0;go_wp2_with fail
      go_loopg [13, 75] n (fun g o i wr => ∃ (k : Nat) (B : Option Addr) (d : Nat) (q : List Nat), g + k = n ∧ i = .int .i64 k ∧ o = .slice B k d ∧ Own W7.heap.size W7 [.own 54 4 B k d (vscs (l.take k)) q] wr)
      case atStart => exact ⟨0, none, 0, [], by omega, rfl, rfl, HO.out⟩
      case round =>
        obtain ⟨k, B, d, q, hk, rfl, rfl, oo⟩ := hrel;by_cases hlt : k < n
        · have hlt2 : k < l.length := by have := HN.out; omega
          obtain ⟨b, off, eA, hb, hc⟩ := (H7.out.1 wr oo.bel).1.1.1.1.1.1.1.2.1.2 (show 0 < l.length by omega);have g0 := vscs_get (l := l) (k := k) hlt2;have c0 : wr.cell? ⟨b, off + k * 4, none⟩ = some (.int .i64 l[k].arr) := by have := hc _ _ g0.1; simpa [Nat.add_assoc] using this
          have c1 : wr.cell? ⟨b, off + k * 4 + 1, none⟩ = some (.int .i64 l[k].last) := by have := hc _ _ g0.2.1; simpa [Nat.add_assoc] using this
          have c2 : wr.cell? ⟨b, off + k * 4 + 2, none⟩ = some (.int .i64 l[k].stay) := by have := hc _ _ g0.2.2.1; simpa [Nat.add_assoc] using this
          have c3 : wr.cell? ⟨b, off + k * 4 + 3, none⟩ = some (.int .i64 l[k].dra) := by have := hc _ _ g0.2.2.2; simpa [Nat.add_assoc] using this
          have zb := hb;have hsn := vscs_snoc hlt2;obtain ⟨x, hx⟩ : ∃ x, x = l[k].arr := ⟨_, rfl⟩;rw [← hx] at c0 hsn;obtain ⟨y, hy⟩ : ∃ x, x = l[k].last := ⟨_, rfl⟩;rw [← hy] at c1 hsn;obtain ⟨z, hz⟩ : ∃ x, x = l[k].stay := ⟨_, rfl⟩;rw [← hz] at c2 hsn;obtain ⟨u, hu⟩ : ∃ x, x = l[k].dra := ⟨_, rfl⟩;rw [← hu] at c3 hsn;have n2 : (k : Int) < (n : Int) := by omega
          have HS := Lib.hid (And.intro oo (And.intro hsn eA));rw [eA];clear hc g0 oo hsn eA hb hx hy hz hu
          go_wp2_with (at_builtin
                       refine wpList_append_S (size := 4) rfl (.tmp 79) (.tmp 81) 53 rfl i0 _ 32 Tryz.underlying53 hi0 hz0 hz1 (by decide) hz2 rfl (A := B) (n := k) (c := d) (xs := vscs (l.take k)) (fp := q) (by simp [Act.eval]) ⟨wr.heap.size + 1, 0, none⟩ (by simp [Act.eval]) [.int .i64 x, .int .i64 y, .int .i64 z, .int .i64 u] (((HS.out.1.below (((Below.refl _ _).alloc (Nat.le_refl _) _).alloc (by simp) _)).get 0 rfl)) rfl ?_ (by intro u hu; simp at hu; rcases hu with rfl | rfl | rfl | rfl <;> rfl) (by omega) (by decide) ?_
                       · intro j v hv;rw [show (⟨wr.heap.size + 1, 0, none⟩ : Addr).add j = ⟨wr.heap.size + 1, j, none⟩ from by simp [Addr.add]; omega];have := World.cell?_alloc_new (wr.alloc (.cells #[.int .i64 x, .int .i64 y, .int .i64 z, .int .i64 u] 44)) #[.int .i64 x, .int .i64 y, .int .i64 z, .int .i64 u] 54 j;rw [World.size_alloc] at this;rw [this];simpa using hv
                       intro g c' w5 h1 h2 h3 h4;rw [HS.out.2.1] at h1;have hq := (HS.out.1.below (((Below.refl _ _).alloc (Nat.le_refl _) _).alloc (by simp) _)).upd 0 rfl (i' := .own 54 4 (some ⟨g, 0, none⟩) (k + 1) c' (vscs (l.take (k + 1))) [g]) h4 h1 (fun x hx => by
                         rw [List.mem_singleton.1 hx];rcases h2 with h | h
                         · exact .inl h
                         · exact .inr (Nat.le_of_eq h))
                       have HQ := Lib.hid hq;clear h1 h2 h3 h4 hq)
          rw [← HS.out.2.2];go_roundg (gk - 1);case measure => omega
          case rel => exact ⟨k + 1, some ⟨g, 0, none⟩, c', [g], by omega, by go_num, rfl, HQ.out⟩
        · obtain rfl : k = n := by omega
          have hno : ¬ (k : Int) < (k : Int) := by omega
          have HS := Lib.hid oo;clear oo hlt;go_wp2_with fail
          go_meet
          refine ⟨B, d, rfl, ?_, HS.out.bel⟩;have hr := (HS.out.get 0 rfl : OwnS _ _ _ _ _ _ _ _).rd
          rwa [List.take_of_length_le (by have := HN.out; omega)] at hr
    case rest =>
    obtain ⟨V2, v2, rfl, r8, b8⟩ := hcut;obtain ⟨w8, rfl, r8, b8⟩ : ∃ wz, wz = _ ∧ Rd wz 4 V2 n (vscs l) ∧ Below W7.heap.size W7 wz := ⟨_, rfl, r8, b8⟩
    apply_assumption
    have H8 := Lib.hid (And.intro ((H7.out.1.step b8).and (Later.rd r8)) (H7.out.2.trans (b8.mono H7.out.2.size)));clear r8 b8
    go_upto_block 2 with fail
    go_cut [16] from 84 to 94 (fun v wx => ∃ (B : Option Addr) (d : Nat), v = .slice B m d ∧ Rd wx 2 B m (plcs a) ∧ Below w8.heap.size w8 wx)
    case first =>
      obtain ⟨i0, hi0, hz0, hz1, hz2⟩ := info_parts infoRPl;have O0 : Own w8.heap.size w8 [.own 56 2 none 0 0 [] []] w8 := by
        have h := (Own.start w8).new (i := .own 56 2 none 0 0 [] []) (Below.refl _ _) (OwnS.nil _ _ _) (by simp [It.fp]);simpa using h
      have HO := Lib.hid O0;clear O0;go_wp2_with fail
      go_loopg [16, 86] m (fun g o i wr => ∃ (k : Nat) (B : Option Addr) (d : Nat) (q : List Nat), g + k = m ∧ i = .int .i64 k ∧ o = .slice B k d ∧ Own w8.heap.size w8 [.own 56 2 B k d (plcs (a.take k)) q] wr)
      case atStart => exact ⟨0, none, 0, [], by omega, rfl, rfl, HO.out⟩
      case round =>
        obtain ⟨k, B, d, q, hk, rfl, rfl, oo⟩ := hrel;by_cases hlt : k < m
        · have hlt2 : k < a.length := by have := HN.out; omega
          obtain ⟨b, off, eA, hb, hc⟩ := (H8.out.1 wr oo.bel).1.1.1.1.1.1.1.1.2.2.2 (show 0 < a.length by omega);have g0 := plcs_get (l := a) (k := k) hlt2;have c0 : wr.cell? ⟨b, off + k * 2, none⟩ = some (.int .i64 a[k].berth) := by have := hc _ _ g0.1; simpa [Nat.add_assoc] using this
          have c1 : wr.cell? ⟨b, off + k * 2 + 1, none⟩ = some (.int .i64 a[k].start) := by have := hc _ _ g0.2; simpa [Nat.add_assoc] using this
          have zb := hb;have hsn := plcs_snoc hlt2;obtain ⟨x, hx⟩ : ∃ x, x = a[k].berth := ⟨_, rfl⟩;rw [← hx] at c0 hsn;obtain ⟨y, hy⟩ : ∃ x, x = a[k].start := ⟨_, rfl⟩;rw [← hy] at c1 hsn;have n2 : (k : Int) < (m : Int) := by omega
          have HS := Lib.hid (And.intro oo (And.intro hsn eA));rw [eA];clear hc g0 oo hsn eA hb hx hy
          go_wp2_with (at_builtin
                       refine wpList_append_S (size := 2) rfl (.tmp 90) (.tmp 92) 55 rfl i0 _ 16 Tryz.underlying55 hi0 hz0 hz1 (by decide) hz2 rfl (A := B) (n := k) (c := d) (xs := plcs (a.take k)) (fp := q) (by simp [Act.eval]) ⟨wr.heap.size + 1, 0, none⟩ (by simp [Act.eval]) [.int .i64 x, .int .i64 y] (((HS.out.1.below (((Below.refl _ _).alloc (Nat.le_refl _) _).alloc (by simp) _)).get 0 rfl)) rfl ?_ (by intro u hu; simp at hu; rcases hu with rfl | rfl <;> rfl) (by omega) (by decide) ?_
                       · intro j v hv;rw [show (⟨wr.heap.size + 1, 0, none⟩ : Addr).add j = ⟨wr.heap.size + 1, j, none⟩ from by simp [Addr.add]; omega];have := World.cell?_alloc_new (wr.alloc (.cells #[.int .i64 x, .int .i64 y] 47)) #[.int .i64 x, .int .i64 y] 56 j;rw [World.size_alloc] at this;rw [this];simpa using hv
                       intro g c' w5 h1 h2 h3 h4;rw [HS.out.2.1] at h1;have hq := (HS.out.1.below (((Below.refl _ _).alloc (Nat.le_refl _) _).alloc (by simp) _)).upd 0 rfl (i' := .own 56 2 (some ⟨g, 0, none⟩) (k + 1) c' (plcs (a.take (k + 1))) [g]) h4 h1 (fun x hx => by
                         rw [List.mem_singleton.1 hx];rcases h2 with h | h
                         · exact .inl h
                         · exact .inr (Nat.le_of_eq h))
                       have HQ := Lib.hid hq;clear h1 h2 h3 h4 hq)
          rw [← HS.out.2.2];go_roundg (gk - 1);case measure => omega
          case rel => exact ⟨k + 1, some ⟨g, 0, none⟩, c', [g], by omega, by go_num, rfl, HQ.out⟩
        · obtain rfl : k = m := by omega
          have hno : ¬ (k : Int) < (k : Int) := by omega
          have HS := Lib.hid oo;clear oo hlt;go_wp2_with fail
          go_meet
          refine ⟨B, d, rfl, ?_, HS.out.bel⟩;have hr := (HS.out.get 0 rfl : OwnS _ _ _ _ _ _ _ _).rd
          rwa [List.take_of_length_le (by have := HN.out; omega)] at hr
    case rest =>
    obtain ⟨X2, x2, rfl, r9, b9⟩ := hcut;obtain ⟨w9, rfl, r9, b9⟩ : ∃ wz, wz = _ ∧ Rd wz 2 X2 m (plcs a) ∧ Below w8.heap.size w8 wz := ⟨_, rfl, r9, b9⟩
    apply_assumption
    have H9 := Lib.hid (And.intro ((H8.out.1.step b9).and (Later.rd r9)) (H8.out.2.trans (b9.mono H8.out.2.size)));clear r9 b9;have hn := HN.out.1;have hm := HN.out.2.1;subst hn hm;have E := H9.out.1.now;have z := Nat.le_refl w9.heap.size;refine berths_b (c := ⟨sb, qb, rb, At, ct, Aw, cw, Ai, ci, s, A1, c1, B1, d1, A2, c2, B2, d2, p, O1, o1, G1, g1, V2, v2, X2, x2, Av, cv, l, Aa, ca, a⟩) (D := w9.heap.size) ⟨z, E.1.1.1.1.1.1.1.1.2.2.2, E.1.1.1.1.2, E.1.1.2, ⟨hL_ E.1.1.1.1.1.1.1.1.2.2.2, hL_ E.1.1.1.1.2, hL_ E.1.1.2⟩, E.1.1.1.1.1.1.1.2, E.1.1.1.2, RdB.of E.1.1.1.1.1.1.2 z, RdB.of E.1.2 z, RdB.of E.1.1.1.1.1.1.1.1.1.2.1 z, RdB.of E.1.1.1.1.1.2 z, RdB.of E.2 z, RdB.of E.1.1.1.1.1.1.1.1.1.2.2 z, RdB.of E.1.1.1.1.1.1.1.1.2.1.1 z, RdB.of E.1.1.1.1.1.1.1.1.2.1.2.1 z, RdB.of E.1.1.1.1.1.1.1.1.2.1.2.2 z⟩ ⟨by have := HS.out.1.n1; show p.chs.length ≤ 1000; omega, by have := HS.out.1.n2; show p.bts.length ≤ 1000; omega, fun b hb => by have := HS.out.1.n3 b hb; omega, f3, f4, by have := HS.out.2.1; have := HN.out.2.2.1; show s.thr.length ≤ 20; omega, by have := HS.out.2.2.1; have := HN.out.2.2.2.1; show s.wat.length ≤ 20; omega, by have := HS.out.2.2.2; have := HN.out.2.2.2.2; show s.ice.length ≤ 20; omega, H5.out.2.2, H.out.2.2.2.2.2.2⟩ H9.out.2 ?_;intro _ _ _ h;exact h
  · go_wp2_with (go_at_call 5; refine (awakeP_any wz).mono ?_; rintro e w5 ⟨rfl, b5⟩; have HW := Lib.hid b5; clear b5)
    go_ret;exact ⟨rfl, bwz.trans (HW.out.mono bwz.size)⟩
end Go.Proofs.YtalcinepeofmcaaGreat
