import Derived.Test.YtalcinepeofmcaaGreatPBp12
import Derived.Test.YtalcinepeofmcaaGreatPBp19
import Derived.Test.YtalcinepeofmcaaGreatPBp9
import Derived.Test.YtalcinepeofmcaaGreatPBp1
import Derived.Test.YtalcinepeofmcaaGreatPBp3
import Derived.Test.YtalcinepeofmcaaGreatProg
import Derived.Test.YtalcinepeofmcaaGreatPBp0
import Derived.Deep.RegionHeld3
import Derived.Test.YtalcinepeofmcaaGreatPBp2
import Derived.Deep.DeepCutAuto
set_option linter.unusedVariables false
set_option linter.unusedSimpArgs false
set_option maxRecDepth 100000
set_option maxHeartbeats 40000000
namespace Go.Proofs.YtalcinepeofmcaaGreat
open Go Go.RowKit Sp Pt
def mustQ (h d : Int) (v : Vst) : Bool := decide (d ≤ v.dra) && (decide (v.last ≤ h) && decide (h < v.arr + v.stay))
def mustN (l : List Vst) (h d : Int) (j : Nat) : Nat := (l.take j).countP (mustQ h d)
def bertN (p : Prt) (d : Int) (b : Nat) : Nat := (p.bts.take b).countP fun x => decide (d ≤ x.depth)
def outN (p : Prt) (l : List Vst) (h : Int) (k : Nat) : Int := (l.take k).foldl (fun o v => if bertD p v.dra < mustH l h v.dra then max o v.dra else o) (-1)
theorem mustN_succ {l : List Vst} {h d : Int} {j : Nat} (hj : j < l.length) : mustN l h d (j + 1) = mustN l h d j + if mustQ h d l[j] then 1 else 0 := by
  unfold mustN;rw [List.take_succ_eq_append_getElem hj, List.countP_append, List.countP_cons, List.countP_nil, Nat.zero_add]
theorem mustN_all (l : List Vst) (h d : Int) : mustN l h d l.length = mustH l h d := by unfold mustN mustH; rw [List.take_length]; rfl
theorem mustN_le (l : List Vst) (h d : Int) (j : Nat) : mustN l h d j ≤ j := Nat.le_trans List.countP_le_length (by simp; omega)
theorem bertN_succ {p : Prt} {d : Int} {b : Nat} (hb : b < p.bts.length) : bertN p d (b + 1) = bertN p d b + if decide (d ≤ p.bts[b].depth) then 1 else 0 := by
  unfold bertN;rw [List.take_succ_eq_append_getElem hb, List.countP_append, List.countP_cons, List.countP_nil, Nat.zero_add]
theorem bertN_all (p : Prt) (d : Int) : bertN p d p.bts.length = bertD p d := by unfold bertN bertD; rw [List.take_length]
theorem bertN_le (p : Prt) (d : Int) (b : Nat) : bertN p d b ≤ b := Nat.le_trans List.countP_le_length (by simp; omega)
theorem outN_succ {p : Prt} {l : List Vst} {h : Int} {k : Nat} (hk : k < l.length) : outN p l h (k + 1) = if bertD p l[k].dra < mustH l h l[k].dra then max (outN p l h k) l[k].dra else outN p l h k := by
  unfold outN;rw [List.take_succ_eq_append_getElem hk, List.foldl_append]; rfl
theorem outN_all (p : Prt) (l : List Vst) (h : Int) : outN p l h l.length = outR p l h := by unfold outN outR; rw [List.take_length]
theorem outN_bd {p : Prt} {l : List Vst} {h : Int} (hv : ∀ v ∈ l, 10 ≤ v.dra ∧ v.dra ≤ 3000) : ∀ k, k ≤ l.length → -1 ≤ outN p l h k ∧ outN p l h k ≤ 3000
  | 0, _ => by simp [outN]
  | k + 1, hk => by
    have h1 := outN_bd (p := p) (h := h) hv k (by omega);have h2 := hv _ (List.getElem_mem (show k < l.length by omega));rw [outN_succ (by omega)];split <;> omega
theorem crowd_yes {p : Prt} {l : List Vst} (hl : askedE p l = 0) (hv : l.all vstOk = true) {h : Nat} (h0 : 0 ≤ outR p l h) (hn : ∀ x : Nat, x < h → outR p l x = -1) : crowdH p l = h ∧ crowdD p l = outR p l h ∧ crowdE p l = 0 := by
  rcases crowdR_eq (p := p) hv with ⟨_, g⟩ | ⟨g1, g2, g3, g4, g5⟩
  · rw [g h] at h0; omega
  · have e : (crowdS p l).1 = h := by
      rcases Int.lt_trichotomy (crowdS p l).1 h with q | q | q
      · have := hn (crowdS p l).1.toNat (by omega);rw [Int.toNat_of_nonneg g1] at this; omega
      · exact q
      · rw [g5 h q] at h0; omega
    have e0 : crowdE p l = 0 := by unfold crowdE; rw [if_neg (by rw [hl]; simp), if_neg (by omega)]
    refine ⟨?_, ?_, e0⟩
    · unfold crowdH; rw [if_pos e0, e]
    · unfold crowdD; rw [if_pos e0, g3, e]
theorem crowd_none {p : Prt} {l : List Vst} (hl : askedE p l = 0) (hv : l.all vstOk = true) (hn : ∀ x : Nat, x < 2101 → outR p l x = -1) : crowdE p l = 4 := by
  rcases crowdR_eq (p := p) hv with ⟨g, _⟩ | ⟨g1, g2, g3, g4, g5⟩
  · unfold crowdE; rw [if_neg (by rw [hl]; simp), if_pos g]
  · have := hn (crowdS p l).1.toNat (by omega);rw [Int.toNat_of_nonneg g1] at this; omega
theorem rCrowded_any (D : Nat) (Ac : Option Addr) (cc : Nat) (Ab : Option Addr) (cb : Nat) (p : Prt) (Av : Option Addr) (cv : Nat) (l : List Vst) (w : World) (PB : PrtB D w Ac cc Ab cb p) (VB : RdB D w 4 Av l.length (vscs l)) (hD : D ≤ w.heap.size) :
    Calls Tryz.prog 21 #[.agg (prtV Ac cc Ab cb p), .slice Av l.length cv] w (CrowdPost w p l) := by
  obtain ⟨W, hW⟩ : ∃ W, W = w.alloc (.cells (prtV Ac cc Ab cb p) 51) := ⟨_, rfl⟩;obtain ⟨pb, hpb⟩ : ∃ b, b = w.heap.size := ⟨_, rfl⟩;have hh : W.heap[pb]? = some (.cells (prtV Ac cc Ab cb p) 51 (0, 0)) := by rw [hW, hpb]; exact heap_alloc_new _ _
  have b0 : Below w.heap.size w W := by rw [hW]; exact (Below.refl _ _).alloc (Nat.le_refl _) _
  have hD1 : D ≤ W.heap.size := by have := b0.size; omega
  have c0 : W.cell? ⟨pb, 0, none⟩ = some (.slice Ac p.chs.length cc) := (cOH hh 0).trans rfl;have c1 : W.cell? ⟨pb, 1, none⟩ = some (.slice Ab p.bts.length cb) := (cOH hh 1).trans rfl;have c2 : W.cell? ⟨pb, 2, none⟩ = some (.int .i64 p.tugs) := (cOH hh 2).trans rfl;have zp := hL_ hh;obtain ⟨er, her⟩ : ∃ er, er = askedE p l := ⟨_, rfl⟩;have PB1 := PB.below (b0.mono hD);have VB1 := VB.below (b0.mono hD);have ka := rasked9_any D Ac cc Ab cb p Av cv l W PB1 (VB1.rd hD1) hD1;rw [← her] at ka;have H := Lib.hid (And.intro b0 (And.intro her (And.intro ka (And.intro PB1 (And.intro VB1 hh)))));clear hh b0 ka her PB VB PB1 VB1
  go_enter Tryz.func21, Tryz.ntmps21
  go_upto_region 1 with fail
  rw [← hW, ← hpb];clear hW hpb;by_cases h0 : er = 0
  · subst h0;have hck : checkP p = 0 ∧ l.length ≤ 5 ∧ l.all vstOk = true := by
      have hok := H.out.2.1.symm;unfold askedE at hok;split at hok
      · rename_i h; exact absurd hok h
      · rename_i h
        split at hok
        · cases hok
        · split at hok
          · cases hok
          · rename_i h2 h3; exact ⟨by omega, by omega, by simpa using h3⟩
    have hnl := hck.2.1;have hnb := (checkP_ok hck.1).nb;have hvok : ∀ v ∈ l, 0 ≤ v.arr ∧ v.arr ≤ 1000 ∧ v.arr ≤ v.last ∧ v.last ≤ 2000 ∧ 1 ≤ v.stay ∧ v.stay ≤ 100 ∧ 10 ≤ v.dra ∧ v.dra ≤ 3000 := fun v hv => by
      have := List.all_eq_true.1 hck.2.2 v hv;simp only [vstOk, Bool.and_eq_true, Pt.within_iff] at this;omega
    have HV := Lib.hid (And.intro hvok hck.2.2);clear hck hvok;go_upto_region 4 with (go_at_call 42; refine H.out.2.2.1.mono ?_; rintro e w1 ⟨rfl, b1⟩; have B1 := Lib.hid b1; clear b1)
    have hh1 := (B1.out.block _ (hL_ H.out.2.2.2.2.2)).trans H.out.2.2.2.2.2;have hDw : D ≤ w1.heap.size := by have := B1.out.size; omega
    have G := Lib.hid (And.intro (H.out.2.2.2.1.below (B1.out.mono hD1)) (And.intro (H.out.2.2.2.2.1.below (B1.out.mono hD1)) (And.intro hh1 (And.intro (H.out.1.trans (B1.out.mono H.out.1.size)) hDw))));clear c0 c1 c2 zp hh1 hDw;go_wp2_with fail
    go_loopg [8] (2101) (fun g i wr => ∃ h : Nat, g + h = 2101 ∧ i = .int .i64 h ∧ (∀ x : Nat, x < h → outR p l x = -1) ∧ Keep [] w1 wr)
    case atStart => exact ⟨0, rfl, rfl, fun _ h => absurd h (by omega), Keep.refl _ _⟩
    case round =>
      obtain ⟨h, hh, rfl, hno, hK⟩ := hrel;have Q := Lib.hid (And.intro hno hK);clear hno hK;by_cases hlh : h < 2101
      · have hlh2 : h ≤ 2100 := by omega
        have hdh : decide ((h : Int) ≤ 2100) = true := decide_eq_true (by omega);go_wp2_with fail
        go_loopg [9, 10] (l.length) (fun g o i wr2 => ∃ k : Nat, g + k = l.length ∧ i = .int .i64 k ∧ o = .int .i64 (outN p l h k) ∧ Keep [] w1 wr2)
        case atStart => exact ⟨0, rfl, rfl, rfl, Q.out.2⟩
        case round =>
          obtain ⟨k, hk, rfl, rfl, hK⟩ := hrel;have hob := outN_bd (p := p) (h := h) (fun v hv => ⟨(HV.out.1 v hv).2.2.2.2.2.2.1, (HV.out.1 v hv).2.2.2.2.2.2.2⟩) k (by omega);by_cases hlk : k < l.length
          · have hs := outN_succ (p := p) (h := h) hlk;obtain ⟨b, off, rfl, hb, v0, v1, v2, v3⟩ := vst_at G.out.2.1 hlk;have hdr := HV.out.1 _ (List.getElem_mem hlk);obtain ⟨d, hd⟩ : ∃ d, d = l[k].dra := ⟨_, rfl⟩;rw [← hd] at v3 hs hdr;have e3 := hK.cell v3 (by simp);have zb : b < wr.heap.size := Nat.lt_of_lt_of_le hb (Nat.le_trans G.out.2.2.2.2 hK.size);have hlk2 : (k : Int) < (l.length : Int) := by omega
            obtain ⟨o, ho⟩ : ∃ o, o = outN p l h k := ⟨_, rfl⟩;rw [← ho] at hob hs ⊢;have HK := Lib.hid (And.intro hs hK);have hd9 : 10 ≤ d ∧ d ≤ 3000 := ⟨hdr.2.2.2.2.2.2.1, hdr.2.2.2.2.2.2.2⟩;clear hs hK v0 v1 v2 v3 hdr hd ho;go_upto_region 13 with fail
            clear e3 zb;go_wp2_with fail
            go_loopg [12, 13] (l.length) (fun g n i wr3 => ∃ j : Nat, g + j = l.length ∧ i = .int .i64 j ∧ n = .int .i64 (mustN l h d j) ∧ Keep [] w1 wr3)
            case atStart => exact ⟨0, rfl, rfl, rfl, HK.out.2⟩
            case round =>
              obtain ⟨j, hj, rfl, rfl, hK⟩ := hrel;have hmb := mustN_le l h d j;by_cases hlj : j < l.length
              · have hs := mustN_succ (h := h) (d := d) hlj;obtain ⟨b', off', eb, hb', v0, v1, v2, v3⟩ := vst_at G.out.2.1 hlj;injection eb with eb
                injection eb with eb1 eb2 _
                subst eb1 eb2;have hvr := HV.out.1 _ (List.getElem_mem hlj);obtain ⟨x, hx⟩ : ∃ x, x = l[j] := ⟨_, rfl⟩;rw [← hx] at v0 v1 v2 v3 hs hvr;obtain ⟨ar, la, st, dr⟩ := x;simp only at v0 v1 v2 v3 hvr;have e0 := hK.cell v0 (by simp);have e1 := hK.cell v1 (by simp);have e2 := hK.cell v2 (by simp);have e3 := hK.cell v3 (by simp);have zb : b < wr.heap.size := Nat.lt_of_lt_of_le hb (Nat.le_trans G.out.2.2.2.2 hK.size);have hlj2 : (j : Int) < (l.length : Int) := by omega
                have hq : mustQ h d ⟨ar, la, st, dr⟩ = (decide (d ≤ dr) && (decide (la ≤ (h : Int)) && decide ((h : Int) < ar + st))) := rfl;rw [hq] at hs;obtain ⟨n, hn⟩ : ∃ n, n = mustN l h d j := ⟨_, rfl⟩;rw [← hn] at hmb hs ⊢;have HJ := Lib.hid (And.intro hs hK);clear hs hK v0 v1 v2 v3 hx hq hn;by_cases g1 : d ≤ dr
                · have d1 : decide (d ≤ dr) = true := decide_eq_true g1;by_cases g2 : la ≤ (h : Int)
                  · have d2 : decide (la ≤ (h : Int)) = true := decide_eq_true g2;by_cases g3 : (h : Int) < ar + st
                    · have d3 : decide ((h : Int) < ar + st) = true := decide_eq_true g3;go_wp2_with fail
                      go_quiet (fail);go_wp2_with fail
                      go_roundg (gk - 1);case measure => omega
                      case rel => exact ⟨j + 1, by omega, by go_num, by rw [HJ.out.1, d1, d2, d3]; simp, HJ.out.2.drewN _⟩
                    · have d3 : decide ((h : Int) < ar + st) = false := decide_eq_false g3;go_wp2_with fail
                      go_quiet (fail);go_wp2_with fail
                      go_roundg (gk - 1);case measure => omega
                      case rel => exact ⟨j + 1, by omega, by go_num, by rw [HJ.out.1, d1, d2, d3]; simp, HJ.out.2.drewN _⟩
                  · have d2 : decide (la ≤ (h : Int)) = false := decide_eq_false g2;go_wp2_with fail
                    go_quiet (fail);go_wp2_with fail
                    go_roundg (gk - 1);case measure => omega
                    case rel => exact ⟨j + 1, by omega, by go_num, by rw [HJ.out.1, d1, d2]; simp, HJ.out.2.drewN _⟩
                · have d1 : decide (d ≤ dr) = false := decide_eq_false g1;go_wp2_with fail
                  go_quiet (fail);go_wp2_with fail
                  go_roundg (gk - 1);case measure => omega
                  case rel => exact ⟨j + 1, by omega, by go_num, by rw [HJ.out.1, d1]; simp, HJ.out.2.drewN _⟩
              · obtain rfl : j = l.length := by omega
                rw [mustN_all] at hmb ⊢;have HM := Lib.hid hK;obtain ⟨n, hn⟩ : ∃ n, n = mustH l h d := ⟨_, rfl⟩;rw [← hn] at hmb ⊢;have HN := Lib.hid hn;clear hK hn;go_wp2_with fail
                go_loopg [12, 14] (p.bts.length) (fun g nv i wr4 => ∃ t : Nat, g + t = p.bts.length ∧ i = .int .i64 t ∧ nv = .int .i64 ((n : Int) - (bertN p d t : Nat)) ∧ Keep [] w1 wr4)
                case atStart => exact ⟨0, rfl, rfl, by simp [bertN], HM.out⟩
                case round =>
                  obtain ⟨t, ht, rfl, rfl, hK⟩ := hrel;have hh4 := (hK.block _ (hL_ G.out.2.2.1) (by simp)).trans G.out.2.2.1;have c1 := (cOH hh4 1).trans rfl;have zp := hL_ hh4;have htb := bertN_le p d t;by_cases hlt : t < p.bts.length
                  · have hs := bertN_succ (d := d) hlt;obtain ⟨bb, bo, Ak, ck, rfl, hbb, u0, _⟩ := G.out.1.bts t hlt;have e0 := hK.cell u0 (by simp);have zb : bb < wr.heap.size := Nat.lt_of_lt_of_le hbb (Nat.le_trans G.out.2.2.2.2 hK.size);obtain ⟨y, hy⟩ : ∃ y, y = p.bts[t].depth := ⟨_, rfl⟩;rw [← hy] at e0 hs;obtain ⟨m, hm⟩ : ∃ m, m = bertN p d t := ⟨_, rfl⟩;rw [← hm] at htb hs ⊢;have HT := Lib.hid (And.intro hs hK);clear hs hK u0 hy hh4 hm;by_cases g1 : d ≤ y
                    · go_wp2_with fail
                      go_roundg (gk - 1);case measure => omega
                      case rel => exact ⟨t + 1, by omega, by go_num, by rw [HT.out.1, decide_eq_true g1]; simp; omega, HT.out.2⟩
                    · go_wp2_with fail
                      go_roundg (gk - 1);case measure => omega
                      case rel => exact ⟨t + 1, by omega, by go_num, by rw [HT.out.1, decide_eq_false (Int.not_le.2 (by omega))]; simp, HT.out.2⟩
                  · obtain rfl : t = p.bts.length := by omega
                    rw [bertN_all] at htb ⊢;have hs := HK.out.1;rw [← HN.out] at hs;obtain ⟨m, hm⟩ : ∃ m, m = bertD p d := ⟨_, rfl⟩;rw [← hm] at htb hs ⊢;have HT := Lib.hid (And.intro hs hK);clear hs hK hh4 hm;by_cases g1 : m < n
                    · have g2 : (0 : Int) < (n : Int) - (m : Int) := by omega
                      go_wp2_with fail
                      all_goals
                        go_roundg (l.length - (k + 1));case measure => omega
                        case rel => exact ⟨k + 1, by omega, by go_num, by rw [HT.out.1, if_pos g1]; congr 1; omega, HT.out.2⟩
                    · have g2 : ¬ (0 : Int) < (n : Int) - (m : Int) := by omega
                      go_wp2_with fail
                      go_roundg (l.length - (k + 1));case measure => omega
                      case rel => exact ⟨k + 1, by omega, by go_num, by rw [HT.out.1, if_neg g1], HT.out.2⟩
          · obtain rfl : k = l.length := by omega
            rw [outN_all] at hob ⊢;have HK := Lib.hid hK;obtain ⟨o, ho⟩ : ∃ o, o = outR p l h := ⟨_, rfl⟩;rw [← ho] at hob ⊢;have HO := Lib.hid ho;clear hK ho;by_cases g1 : 0 ≤ o
            · go_wp2_with fail
              refine bodyPost_ret (results_tmp3P rfl _ _ _) rfl ?_;obtain ⟨r1, r2, r3⟩ := crowd_yes H.out.2.1.symm HV.out.2 (by rw [← HO.out]; exact g1) Q.out.1;exact ⟨by rw [r1, r2, r3, ← HO.out]; rfl, G.out.2.2.2.1.trans (HK.out.below G.out.2.2.2.1.size (by simp))⟩
            · go_wp2_with fail
              go_roundg (2101 - (h + 1));case measure => omega
              case rel => exact ⟨h + 1, by omega, by go_num, fun x hx => by
                by_cases e : x = h
                · subst e; rw [← HO.out]; omega
                · exact Q.out.1 x (by omega), HK.out⟩
      · obtain rfl : h = 2101 := by omega
        go_wp2_with fail
        refine bodyPost_ret (results_tmp3P rfl _ _ _) rfl ?_;exact crowd_no (crowd_none H.out.2.1.symm HV.out.2 Q.out.1) (by decide) (G.out.2.2.2.1.trans (Q.out.2.below G.out.2.2.2.1.size (by simp)))
  · have hrb : (er != 0) = true := by simp [h0]
    have HC := Lib.hid h0;clear h0;go_wp2_with (go_at_call 42; refine H.out.2.2.1.mono ?_; rintro e w1 ⟨rfl, b1⟩; have B1 := Lib.hid b1; clear b1)
    refine bodyPost_ret (results_tmp3P rfl _ _ _) rfl ?_;exact crowd_no (by unfold crowdE; rw [if_pos (by rw [← H.out.2.1]; exact HC.out), H.out.2.1]) HC.out (H.out.1.trans (B1.out.mono H.out.1.size))
set_option maxRecDepth 100000
theorem vst_neq (x y : Vst) (w : World) : (binOp .neq 44 (.agg #[.int .i64 x.arr, .int .i64 x.last, .int .i64 x.stay, .int .i64 x.dra]) (.agg #[.int .i64 y.arr, .int .i64 y.last, .int .i64 y.stay, .int .i64 y.dra])).run Tryz.prog w = .ok (.bool (!decide (x = y))) w := by
  have u3 := Tryz.underlying3;have a3 := Tryz.isAgg3;have z3 := Tryz.sizeOf3;have hS : Tryz.prog.underlying 44 = some (.struct (Tryz.prog.fieldsOf 44)) := by kernel_rfl
  have hp : Tryz.prog.stoodInHeld 44 = false := by kernel_rfl
  rw [run_neq_struct, show (10000 : Nat) = 9999 + 1 from rfl, run_equalIn_agg w 9999 44 _ _ hS hp];simp only [Program.fieldsOf, Tryz.underlying44];go_simp;obtain ⟨a, b, c, d⟩ := x;obtain ⟨a', b', c', d'⟩ := y;by_cases h1 : a = a' <;> by_cases h2 : b = b' <;> by_cases h3 : c = c' <;> by_cases h4 : d = d' <;> simp [h1, h2, h3, h4]
theorem eqVsts_any (A : Option Addr) (c : Nat) (l : List Vst) (B : Option Addr) (d : Nat) (m : List Vst) (w : World) (hr : Rd w 4 A l.length (vscs l)) (hr2 : Rd w 4 B m.length (vscs m)) (hm : l.length ≤ 9223372036854775807) (hm2 : m.length ≤ 9223372036854775807) :
    Calls Tryz.prog 23 #[.slice A l.length c, .slice B m.length d] w fun e w' => e = .returned (.bool (decide (l = m))) ∧ Below w.heap.size w w' := by
  by_cases hlen : l.length = m.length
  · have hle : ((l.length : Int) != (m.length : Int)) = false := by simp; omega
    have hmm : m.length = l.length := hlen.symm;rw [hmm] at hr2 ⊢;have HL := Lib.hid hmm;clear hlen hmm
    go_enter Tryz.func23, Tryz.ntmps23
    go_wp2_with fail
    go_loopg [13] (l.length) (fun g i wr => ∃ k : Nat, g + k = l.length ∧ i = .int .i64 k ∧ l.take k = m.take k ∧ Keep [] w wr)
    case atStart => exact ⟨0, rfl, rfl, by simp, Keep.refl _ _⟩
    case round =>
      obtain ⟨k, hk, rfl, hb, hK⟩ := hrel;have HB := Lib.hid (And.intro hb hK);by_cases hlt : k < l.length
      · obtain ⟨b, off, rfl, hbb, hc⟩ := hr.2 (by omega);obtain ⟨b2, off2, rfl, hbb2, hc2⟩ := hr2.2 (by omega);have hlm : k < m.length := by have := HL.out; omega
        obtain ⟨x, hx'⟩ : ∃ x, x = l[k] := ⟨_, rfl⟩;obtain ⟨y, hy'⟩ : ∃ y, y = m[k] := ⟨_, rfl⟩;obtain ⟨s0, s1, s2, s3⟩ := vscs_get hlt;obtain ⟨t0, t1, t2, t3⟩ := vscs_get hlm;rw [← hx'] at s0 s1 s2 s3;rw [← hy'] at t0 t1 t2 t3;have bk : ∀ o u, w.cell? ⟨b, o, none⟩ = some u → wr.cell? ⟨b, o, none⟩ = some u := fun o u h => hK.cell h (by simp);have bk2 : ∀ o u, w.cell? ⟨b2, o, none⟩ = some u → wr.cell? ⟨b2, o, none⟩ = some u := fun o u h => hK.cell h (by simp);have c0 := bk (off + k*4) _ (hc _ _ s0);have c1 := bk (off + k*4 + 1) _ (hc _ _ s1);have c2 := bk (off + k*4 + 2) _ (hc _ _ s2);have c3 := bk (off + k*4 + 3) _ (hc _ _ s3);have d0 := bk2 (off2 + k*4) _ (hc2 _ _ t0);have d1 := bk2 (off2 + k*4 + 1) _ (hc2 _ _ t1);have d2 := bk2 (off2 + k*4 + 2) _ (hc2 _ _ t2);have d3 := bk2 (off2 + k*4 + 3) _ (hc2 _ _ t3);clear bk bk2 s0 t0 s1 t1 s2 s3 t2 t3;have hkI : (0 : Int) ≤ (k : Int) ∧ (k : Int) < (l.length : Int) := by omega
        have HX := Lib.hid (And.intro hx' hy');clear hx' hy' hb hK hc hc2 hr hr2;by_cases hxy : x = y
        · subst hxy;have hne : ∀ w, (binOp .neq 44 (.agg #[.int .i64 x.arr, .int .i64 x.last, .int .i64 x.stay, .int .i64 x.dra]) (.agg #[.int .i64 x.arr, .int .i64 x.last, .int .i64 x.stay, .int .i64 x.dra])).run Tryz.prog w = .ok (.bool false) w := fun w => by rw [vst_neq]; simp
          go_upto_region 6 with fail
          go_quiet (fail);go_wp2_with fail
          go_roundg (gk - 1);case measure => omega
          case rel =>
            refine ⟨k + 1, by omega, by go_num, ?_, HB.out.2.drewN _⟩;rw [List.take_succ_eq_append_getElem hlt, List.take_succ_eq_append_getElem (by have := HL.out; omega : k < m.length), HB.out.1, ← HX.out.1, ← HX.out.2]
        · have hne : ∀ w, (binOp .neq 44 (.agg #[.int .i64 x.arr, .int .i64 x.last, .int .i64 x.stay, .int .i64 x.dra]) (.agg #[.int .i64 y.arr, .int .i64 y.last, .int .i64 y.stay, .int .i64 y.dra])).run Tryz.prog w = .ok (.bool true) w := fun w => by rw [vst_neq]; simp [hxy]
          go_upto_region 6 with fail
          go_quiet (fail);go_wp2_with fail
          go_ret;refine ⟨?_, below_drewN (HB.out.2.below (Nat.le_refl _) (by simp)) _⟩;have : decide (l = m) = false := decide_eq_false fun e => by
            apply hxy;rw [HX.out.1, HX.out.2];simp [e]
          rw [this]; rfl
      · obtain rfl : k = l.length := by omega
        clear hK hb;go_wp2_with fail
        go_ret;refine ⟨?_, HB.out.2.below (Nat.le_refl _) (by simp)⟩;have h1 := HB.out.1;rw [List.take_length, show l.length = m.length from HL.out.symm, List.take_length] at h1;rw [decide_eq_true h1]; rfl
  · have hle : ((l.length : Int) != (m.length : Int)) = true := by simp; omega
    have HL := Lib.hid hlen;clear hlen
    go_enter Tryz.func23, Tryz.ntmps23
    go_wp2_with fail
    go_ret;refine ⟨?_, Below.refl _ _⟩;rw [decide_eq_false (fun e => HL.out (by rw [e]))]; rfl
theorem eqVsts_same (A B : Option Addr) (c d n : Nat) (l : List Vst) (w : World) (hn : n = l.length) (hm : n ≤ 1000) (h1 : Rd w 4 A n (vscs l)) (h2 : Rd w 4 B n (vscs l)) :
    Calls Tryz.prog 23 #[.slice A n c, .slice B n d] w fun e w' => e = .returned (.bool true) ∧ Below w.heap.size w w' := by
  subst hn;have := eqVsts_any A c l B d l w h1 h2 (by omega) (by omega)
  rwa [decide_eq_true rfl] at this
theorem rplc_eq (x : Plc) (w : World) : (binOp .eql 56 (.agg #[.int .i64 x.berth, .int .i64 x.start]) (.agg #[.int .i64 x.berth, .int .i64 x.start])).run Tryz.prog w = .ok (.bool true) w := by
  have u3 := Tryz.underlying3;have a3 := Tryz.isAgg3;have z3 := Tryz.sizeOf3;have hS : Tryz.prog.underlying 56 = some (.struct (Tryz.prog.fieldsOf 56)) := by kernel_rfl
  have hp : Tryz.prog.stoodInHeld 56 = false := by kernel_rfl
  rw [run_eql_struct, show (10000 : Nat) = 9999 + 1 from rfl, run_equalIn_agg w 9999 56 _ _ hS hp];simp only [Program.fieldsOf, Tryz.underlying56];go_simp
theorem eqPl_one (x : Plc) (w : World) :
    Calls Tryz.prog 17 #[.agg #[.int .i64 x.berth, .int .i64 x.start], .agg #[.int .i64 x.berth, .int .i64 x.start]] w fun e w' => e = .returned (.bool true) ∧ Below w.heap.size w w' := by
  have hq := rplc_eq x
  go_enter Tryz.func17, Tryz.ntmps17
  go_wp2_with fail
  go_ret;exact ⟨rfl, ((Below.refl _ _).alloc (Nat.le_refl _) _).alloc (by simp) _⟩
theorem eqPl_any (A : Option Addr) (c : Nat) (B : Option Addr) (d : Nat) (L : List Plc) (w : World) (hr : Rd w 2 A L.length (plcs L)) (hr2 : Rd w 2 B L.length (plcs L)) (hl : L.length ≤ 1000) :
    Calls Tryz.prog 16 #[.slice A L.length c, .slice B L.length d, .func (.func 17) #[] #[]] w fun e w' => e = .returned (.bool true) ∧ Below w.heap.size w w' := by
  have H := Lib.hid (And.intro hr hr2);have hne : ((L.length : Int) != (L.length : Int)) = false := by simp
  clear hr hr2
  go_enter Tryz.func16, Tryz.ntmps16
  go_wp2_with fail
  go_loopg [17] (L.length) (fun g i wr => ∃ k : Nat, g + k = L.length ∧ i = .int .i64 k ∧ Below w.heap.size w wr)
  case atStart => exact ⟨0, rfl, rfl, Below.refl _ _⟩
  case round =>
    obtain ⟨k, hk, rfl, hb⟩ := hrel;by_cases hlt : k < L.length
    · obtain ⟨b1, o1, rfl, z1, k1⟩ := H.out.1.2 (by omega);obtain ⟨b2, o2, rfl, z2, k2⟩ := H.out.2.2 (by omega);obtain ⟨g0, g1⟩ := plcs_get hlt;obtain ⟨x, hx⟩ : ∃ x, x = L[k] := ⟨_, rfl⟩;rw [← hx] at g0 g1;have c0 := (hb.cell (p := ⟨b1, o1 + k * 2, none⟩) z1).trans (k1 _ _ g0);have c1' := (hb.cell (p := ⟨b1, o1 + k * 2 + 1, none⟩) z1).trans (k1 (k * 2 + 1) _ g1);have c2' := (hb.cell (p := ⟨b2, o2 + k * 2, none⟩) z2).trans (k2 _ _ g0);have c3 := (hb.cell (p := ⟨b2, o2 + k * 2 + 1, none⟩) z2).trans (k2 (k * 2 + 1) _ g1);have hcall := fun wx => eqPl_one x wx;have zb1 : b1 < wr.heap.size := by have := hb.size; omega
      have zb2 : b2 < wr.heap.size := by have := hb.size; omega
      have n2 : (k : Int) < (L.length : Int) := by omega
      have HC := Lib.hid (And.intro hcall hb);clear g0 g1 hx hcall hb k1 k2;go_wp2_with (go_at_call 17; refine (HC.out.1 _).mono ?_; rintro e w' ⟨rfl, b3⟩; have HB := Lib.hid (HC.out.2.trans (((((Below.refl _ _).alloc (Nat.le_refl _) _).alloc (by simp) _).trans (b3.mono (by simp; omega))).mono HC.out.2.size)); clear b3)
      go_roundg (gk - 1);case measure => omega
      case rel => exact ⟨k + 1, by omega, by go_num, HB.out⟩
    · obtain rfl : k = L.length := by omega
      have HC := Lib.hid hb;clear hb;go_wp2_with fail
      go_ret;exact ⟨rfl, HC.out⟩
end Go.Proofs.YtalcinepeofmcaaGreat
namespace Go.Proofs.YtalcinepeofmcaaGreat
open Go Go.RowKit Sp
theorem infoVst : (Tryz.prog.info? 44).map (fun i => (i.zero, i.size, i.bytes)) = some (some (.agg #[.int .i64 0, .int .i64 0, .int .i64 0, .int .i64 0]), 4, 32) := by kernel_rfl
theorem cloneVst_any (A : Option Addr) (n c : Nat) (xs : List Value) (w : World) (hr : Rd w 4 A n xs) (h1 : ∀ u ∈ xs, u.oneCell' = true) (hc : A = none → n = 0 ∧ c = 0) (hl : n ≤ 100000000) :
    Calls Tryz.prog 7 #[.slice A n c] w (CloneS w 44 4 n xs) := by
  obtain ⟨i0, hi, hz0, hz1, hz2⟩ := info_parts infoVst;have hnil := fun (w : World) (a : Option Addr) (n c : Nat) => Lib.run_eql_slice_nil (P := Tryz.prog) w 26 44 a n c 0 0 Tryz.underlying26;cases A with
  | none =>
    obtain ⟨rfl, rfl⟩ := hc rfl;obtain rfl : xs = [] := List.eq_nil_of_length_eq_zero (by have := hr.1; omega)
    go_enter Tryz.func7, Tryz.ntmps7
    go_wp2_with fail
    go_ret;exact ⟨none, 0, [], rfl, OwnS.nil _ _ _, by simp, Below.refl _ _⟩
  | some ad =>
    have HR := Lib.hid (And.intro hr h1);clear hr hc h1
    go_enter Tryz.func7, Tryz.ntmps7
    go_wp2_with (at_builtin
                 refine wpList_append_M rfl (.tmp 5) (.tmp 6) 26 rfl i0 _ 32 Tryz.underlying26 hi hz0 hz1 hz2 rfl (A := some ⟨w.heap.size, 0, none⟩) (n := 0) (c := 0) (B := some ad) (m := n) (d := c) (xs := []) (fp := [w.heap.size]) (ys := xs) (by simp [Act.eval]) (by simp [Act.eval]) ⟨by simp, .inr ⟨_, _, rfl, rfl, heap_alloc_new w _, by omega, by omega, rfl, by simp⟩⟩ (HR.out.1.below ((Below.refl _ _).alloc (Nat.le_refl _) _)) HR.out.2 (by omega) (by omega) ?_;intro A' c' w' fp' h1 h2 h3;have HQ := Lib.hid (And.intro h1 (And.intro h2 h3));clear h1 h2 h3)
    go_ret;obtain ⟨h1, h2, h3⟩ := HQ.out;refine ⟨A', c', fp', by simp, by simpa using h1, fun g hg => ?_, ((Below.refl w.heap.size w).alloc (Nat.le_refl _) _).trans (h3.below (by simp) (by simp))⟩;rcases h2 g hg with h | h
    · simp at h; omega
    · simp at h; omega
end Go.Proofs.YtalcinepeofmcaaGreat
namespace Go.Proofs.YtalcinepeofmcaaGreat.Hu
open Sp (within)
def seg : List Pnt → Int → Int × Int
  | [], _ => (0, 1)
  | [a], _ => (a.y, 1)
  | a :: b :: l, x => if b.x ≤ x then seg (b :: l) x else (a.y * (b.x - x) + b.y * (x - a.x), b.x - a.x)
def frac (l : List Pnt) (x : Int) : Int × Int := if l = [] then (0, 1) else if endX l ≤ x then ((l.getLastD ⟨0, 0⟩).y, 1) else seg l x
def feq (p q : Int × Int) : Prop := p.1 * q.2 = q.1 * p.2
theorem endX_cons (a b : Pnt) (l : List Pnt) : endX (a :: b :: l) = endX (b :: l) := by simp [endX, List.getLastD]
theorem frac_cons {a b : Pnt} {l : List Pnt} {x : Int} (h : b.x ≤ x) : frac (a :: b :: l) x = frac (b :: l) x := by
  have e1 := endX_cons a b l;unfold frac;rw [if_neg (List.cons_ne_nil a (b :: l)), if_neg (List.cons_ne_nil b l), e1];by_cases hx : endX (b :: l) ≤ x
  · rw [if_pos hx, if_pos hx]; simp [List.getLastD]
  · rw [if_neg hx, if_neg hx, seg, if_pos h]
theorem endX_ge : ∀ {l : List Pnt} {a : Pnt}, (a :: l).Pairwise (fun a b => a.x < b.x) → a.x ≤ endX (a :: l)
  | [], a, _ => by simp [endX]
  | b :: l, a, h => by
    rw [endX_cons];have h1 := (List.pairwise_cons.1 h).1 b (by simp);have := endX_ge (List.pairwise_cons.1 h).2;omega
theorem frac_pos {l : List Pnt} {x : Int} (h : l.Pairwise (fun a b => a.x < b.x)) : 0 < (frac l x).2 := by
  have hs : ∀ {l : List Pnt} {x : Int}, l.Pairwise (fun a b => a.x < b.x) → 0 < (seg l x).2 := by
    intro l;induction l with
    | nil => intro x _; simp [seg]
    | cons a l ih =>
      intro x h;cases l with
      | nil => simp [seg]
      | cons b l =>
        have h1 := (List.pairwise_cons.1 h).1 b (by simp);unfold seg;split
        · exact ih (List.pairwise_cons.1 h).2
        · simp only; omega
  unfold frac;split
  · decide
  · split
    · simp
    · exact hs h
theorem frac_at {b : Pnt} {l : List Pnt} (h : (b :: l).Pairwise (fun a b => a.x < b.x)) : feq (frac (b :: l) b.x) (b.y, 1) := by
  unfold frac;rw [if_neg (by simp)];cases l with
  | nil => simp [endX, feq, List.getLastD]
  | cons c l =>
    have h1 := (List.pairwise_cons.1 h).1 c (by simp);have h2 := endX_ge (List.pairwise_cons.1 h).2;rw [endX_cons, if_neg (by omega), seg, if_neg (by omega)];unfold feq;simp only [Int.sub_self, Int.mul_zero, Int.add_zero, Int.mul_one]
theorem val_frac : ∀ {l : List Pnt} {x : Int}, l ≠ [] → l.Pairwise (fun a b => a.x < b.x) → (∀ p, l.head? = some p → p.x ≤ x) → feq (val l x) (frac l x)
  | [], _, h, _, _ => absurd rfl h
  | [a], x, _, _, hx => by
    have := hx a rfl;simp [val, frac, feq, endX, List.getLastD, this]
  | a :: b :: l, x, _, h, hx => by
    obtain ⟨h1, h2⟩ := List.pairwise_cons.1 h;have hab := h1 b (by simp);have hax := hx a rfl;have hbe := endX_ge h2;rcases Int.lt_trichotomy x b.x with hlt | heq | hgt
    · have e1 : val (a :: b :: l) x = (a.y * (b.x - a.x) + (b.y - a.y) * (x - a.x), b.x - a.x) := by unfold val; rw [if_pos (by omega)]
      have e2 : frac (a :: b :: l) x = (a.y * (b.x - x) + b.y * (x - a.x), b.x - a.x) := by
        unfold frac;rw [if_neg (by simp), endX_cons, if_neg (by omega), seg, if_neg (by omega)]
      rw [e1, e2];unfold feq;simp only
      congr 1
      have e3 : a.y * (b.x - a.x) = a.y * (b.x - x) + a.y * (x - a.x) := by rw [← Int.mul_add]; congr 1; omega
      rw [e3, Int.sub_mul]; omega
    · subst heq;have e1 : val (a :: b :: l) b.x = (a.y * (b.x - a.x) + (b.y - a.y) * (b.x - a.x), b.x - a.x) := by unfold val; rw [if_pos (by omega)]
      rw [e1, frac_cons (Int.le_refl _)];have k := frac_at h2;unfold feq at k ⊢;simp only [Int.mul_one] at k ⊢;have e3 : a.y * (b.x - a.x) + (b.y - a.y) * (b.x - a.x) = b.y * (b.x - a.x) := by rw [← Int.add_mul]; congr 1; omega
      rw [e3, k, Int.mul_assoc, Int.mul_assoc, Int.mul_comm (b.x - a.x)]
    · have e1 : val (a :: b :: l) x = val (b :: l) x := by conv => lhs; unfold val; rw [if_neg (by omega)]
      rw [e1, frac_cons (by omega)];exact val_frac (by simp) h2 (fun p hp => by simp at hp; subst hp; omega)
theorem feq_div {p q : Int × Int} (h : feq p q) (hp : 0 < p.2) (hq : 0 < q.2) : p.1 / p.2 = q.1 / q.2 := by
  unfold feq at h;rw [← Int.mul_ediv_mul_of_pos_left p.1 p.2 hq, ← Int.mul_ediv_mul_of_pos_left q.1 q.2 hp, h, Int.mul_comm p.2]
def ceilR (n d : Int) : Int := if n / d * d < n then n / d + 1 else n / d
theorem ceilR_le {n d k : Int} (hd : 0 < d) : ceilR n d ≤ k ↔ n ≤ k * d := by
  have h1 := Int.mul_ediv_add_emod n d;have h2 := Int.emod_nonneg n (show d ≠ 0 by omega);have h3 := Int.emod_lt_of_pos n hd;rw [Int.mul_comm d] at h1;obtain ⟨q, hq⟩ : ∃ q, q = n / d := ⟨_, rfl⟩;obtain ⟨r, hr⟩ : ∃ r, r = n % d := ⟨_, rfl⟩;rw [← hq, ← hr] at h1;rw [← hr] at h2 h3;unfold ceilR;rw [← hq];constructor
  · intro h;split at h
    · have := Int.mul_le_mul_of_nonneg_right h (show 0 ≤ d by omega);rw [Int.add_mul] at this;omega
    · have := Int.mul_le_mul_of_nonneg_right h (show 0 ≤ d by omega);omega
  · intro h;split
    · rename_i hlt
      have hr0 : 0 < r := by omega
      have h5 : q * d < k * d := by omega
      have := Int.lt_of_mul_lt_mul_right h5 (by omega);omega
    · have h5 : q * d ≤ k * d := by omega
      exact Int.le_of_mul_le_mul_right h5 hd
def thrR (s : Shp) (v : Int) : Int := (frac s.thr v).1 / (frac s.thr v).2
def refN (s : Shp) (n v : Int) : Int := (frac s.wat v).1 * ((frac s.ice n).2 * 10000000) + 100 * (frac s.ice n).1 * (1000 + s.slow * v) * s.brash * (frac s.wat v).2
def refD (s : Shp) (n v : Int) : Int := (frac s.wat v).2 * (frac s.ice n).2 * 10000000
def makR (s : Shp) (n v : Int) : Bool := decide (v ≤ endX s.thr) && decide (ceilR (refN s n v) (refD s n v) ≤ thrR s v)
theorem makR_eq {s : Shp} (h : ShOk s) {n v : Int} (hn : 0 ≤ n ∧ n ≤ 400) (hv : 0 ≤ v) : makR s n v = makes s (lvl n) true v := by
  have w0 := (h.wat.at hv).1;have i0 := (h.ice.at hn.1).1;have t0 := (h.thr.at hv).1;have w1 := frac_pos (x := v) h.wat.inc;have i1 := frac_pos (x := n) h.ice.inc;have t1 := frac_pos (x := v) h.thr.inc;have ew := val_frac h.wat.ne h.wat.inc (h.wat.hx hv);have ei := val_frac h.ice.ne h.ice.inc (h.ice.hx hn.1);have et := feq_div (val_frac h.thr.ne h.thr.inc (h.thr.hx hv)) t0 t1;have eT : thrR s v = thrS s v := by unfold thrR thrS; exact et.symm
  rw [Bool.eq_iff_iff, makes_iff h (lvl n) true hv hn.1];unfold makR;rw [Bool.and_eq_true, decide_eq_true_eq, decide_eq_true_eq, eT];refine and_congr Iff.rfl ?_;have hD : 0 < refD s n v := Int.mul_pos (Int.mul_pos w1 i1) (by decide);have hB : 0 < resB s (lvl n) v := Int.mul_pos w0 (Int.mul_pos i0 (by decide));rw [ceilR_le hD];have key : resA s (lvl n) true v * refD s n v = refN s n v * resB s (lvl n) v := by
    unfold resA resN resB resD refN refD feq at *;simp only [lvl, if_true, Int.mul_zero, Int.zero_mul, Int.add_zero];clear w0 i0 t0 w1 i1 t1 et eT hD hB;generalize val s.wat v = V1 at ew ⊢;generalize val s.ice n = V2 at ei ⊢;generalize frac s.wat v = V3 at ew ⊢;generalize frac s.ice n = V4 at ei ⊢;obtain ⟨a, b⟩ := V1;obtain ⟨c, d⟩ := V2;obtain ⟨e, f⟩ := V3;obtain ⟨g, k⟩ := V4;simp only at ew ei ⊢;obtain ⟨K, hK⟩ : ∃ K, K = 1000 + s.slow * v := ⟨_, rfl⟩;rw [← hK, Int.add_mul, Int.add_mul];have e1 : a * (d * 10000000) * (f * k * 10000000) = a * f * (d * k * 10000000 * 10000000) := by ac_rfl
    have e2 : e * (k * 10000000) * (b * (d * 10000000)) = e * b * (d * k * 10000000 * 10000000) := by ac_rfl
    have e3 : 100 * (c * K * s.brash) * b * (f * k * 10000000) = c * k * (100 * K * s.brash * b * f * 10000000) := by ac_rfl
    have e4 : 100 * g * K * s.brash * f * (b * (d * 10000000)) = g * d * (100 * K * s.brash * b * f * 10000000) := by ac_rfl
    rw [e1, e2, e3, e4, ew, ei]
  obtain ⟨T, hT⟩ : ∃ T, T = thrS s v := ⟨_, rfl⟩;rw [← hT];constructor
  · intro q;have h1 := Int.mul_le_mul_of_nonneg_right q (show 0 ≤ resB s (lvl n) v by omega);rw [← key] at h1;have e5 : T * refD s n v * resB s (lvl n) v = T * resB s (lvl n) v * refD s n v := by ac_rfl
    rw [e5] at h1;exact Int.le_of_mul_le_mul_right h1 hD
  · intro q;have h1 := Int.mul_le_mul_of_nonneg_right q (show 0 ≤ refD s n v by omega);rw [key] at h1;have e5 : T * resB s (lvl n) v * refD s n v = T * refD s n v * resB s (lvl n) v := by ac_rfl
    rw [e5] at h1;exact Int.le_of_mul_le_mul_right h1 hB
def limR (so : Int → Bool) : Nat → Int
  | 0 => -1
  | k + 1 => if so k then (k : Int) else limR so k
theorem limR_spec (so : Int → Bool) : ∀ k : Nat, (limR so k = -1 ∧ ∀ n : Nat, n < k → so n = false) ∨ (∃ r : Nat, limR so k = r ∧ r < k ∧ so r = true ∧ ∀ n : Nat, r < n → n < k → so n = false)
  | 0 => .inl ⟨rfl, fun n hn => absurd hn (by omega)⟩
  | k + 1 => by
    unfold limR;cases h : so k with
    | true =>
      rw [if_pos rfl];exact .inr ⟨k, rfl, by omega, h, fun n h1 h2 => absurd h2 (by omega)⟩
    | false =>
      rw [if_neg (by simp)];rcases limR_spec so k with ⟨h1, h2⟩ | ⟨r, h1, h2, h3, h4⟩
      · refine .inl ⟨h1, fun n hn => ?_⟩;by_cases e : n = k
        · subst e; exact h
        · exact h2 n (by omega)
      · refine .inr ⟨r, h1, by omega, h3, fun n h5 h6 => ?_⟩;by_cases e : n = k
        · subst e; exact h
        · exact h4 n h5 (by omega)
theorem limR_grt {so : Int → Bool} {t : Int} (h : Grt so 0 400 t) : limR so 401 = t := by
  rcases limR_spec so 401 with ⟨h1, h2⟩ | ⟨r, h1, h2, h3, h4⟩
  · have hy := h.yes;have h0 := h.ge;have h5 := h.le;have := h2 t.toNat (by omega);rw [Int.toNat_of_nonneg h0, hy] at this;cases this
  · rw [h1];have h0 := h.ge;have h5 := h.le;rcases Int.lt_trichotomy (r : Int) t with g | g | g
    · have := h4 t.toNat (by omega) (by omega);rw [Int.toNat_of_nonneg h0, h.yes] at this;cases this
    · exact g
    · have := h.no r g (by omega);rw [h3] at this; cases this
end Go.Proofs.YtalcinepeofmcaaGreat.Hu
namespace Go.Proofs.YtalcinepeofmcaaGreat
open Go Go.RowKit Sp Hu
def GrtPost (so : Int → Bool) (lo hi : Int) (w : World) (e : Ending) (w' : World) : Prop := ∃ r b, e = .returned (.tuple #[.int .i64 r, .bool b]) ∧ GrtP so lo hi r b ∧ Below w.heap.size w w'
theorem grtM_any (sb : Nat) (i : Ic) (ch : Bool) (so : Int → Bool) (lo hi : Int) (w : World) (hlo : 0 ≤ lo ∧ lo ≤ hi ∧ hi ≤ 1000) (hmono : ∀ a b, lo ≤ a → a ≤ b → b ≤ hi → so b = true → so a = true)
    (hf : ∀ n, lo ≤ n → n ≤ hi → ∀ wx, Below w.heap.size w wx → Calls Tryz.prog 64 #[.agg #[.pointer (some ⟨sb, 0, none⟩), .int .i64 i.con, .int .i64 i.thk, .int .i64 i.rid, .int .i64 i.prs, .bool ch], .int .i64 n] wx fun e w' => e = .returned (.bool (so n)) ∧ Below wx.heap.size wx w') :
    Calls Tryz.prog 61 #[.int .i64 lo, .int .i64 hi, .func (.func 64) #[.agg #[.pointer (some ⟨sb, 0, none⟩), .int .i64 i.con, .int .i64 i.thk, .int .i64 i.rid, .int .i64 i.prs, .bool ch]] #[]] w (GrtPost so lo hi w) := by
  have HF := Lib.hid (And.intro hf hmono);obtain ⟨z, hz⟩ : ∃ z, z = so lo := ⟨_, rfl⟩;have k0 := hf lo (Int.le_refl _) hlo.2.1 w (Below.refl _ _);rw [← hz] at k0;have H0 := Lib.hid (And.intro k0 hz);clear hf hmono k0 hz;cases z
  · go_enter Tryz.func61, Tryz.ntmps61
    go_wp2_with (go_at_call 64; refine H0.out.1.mono ?_; rintro e w' ⟨rfl, b1⟩; have HB := Lib.hid b1; clear b1)
    go_ret2
    exact ⟨0, false, rfl, .inr ⟨rfl, H0.out.2.symm, rfl⟩, HB.out⟩
  · go_enter Tryz.func61, Tryz.ntmps61
    go_upto_block 0 with (go_at_call 64; refine H0.out.1.mono ?_; rintro e w' ⟨rfl, b1⟩; have HB := Lib.hid b1; clear b1)
    go_wp2_with fail
    go_loopg [0, 1, 8] ((hi - lo).toNat) (fun g x y m wr => ∃ a b : Int, (b - a).toNat ≤ g ∧ lo ≤ a ∧ a ≤ b ∧ b ≤ hi ∧ x = .int .i64 a ∧ y = .int .i64 b ∧ (so a = true ∧ ∀ n, b < n → n ≤ hi → so n = false) ∧ Below w.heap.size w wr)
    case atStart => exact ⟨lo, hi, Nat.le_refl _, Int.le_refl _, hlo.2.1, Int.le_refl _, rfl, rfl, ⟨H0.out.2.symm, fun n h1 h2 => by omega⟩, HB.out⟩
    case round =>
      obtain ⟨a, b, hg, ha, hab, hb, rfl, rfl, hso, bb⟩ := hrel;have HR := Lib.hid (And.intro hso bb);clear hso bb;by_cases hlt : a < b
      · have e0 : (b - a + 1).tdiv 2 = (b - a + 1) / 2 := Int.tdiv_eq_ediv_of_nonneg (by omega);obtain ⟨q, hq⟩ : ∃ q, q = (b - a + 1).tdiv 2 := ⟨_, rfl⟩;have hq2 : 1 ≤ q ∧ q ≤ b - a := by omega
        obtain ⟨m, hm⟩ : ∃ m, m = a + q := ⟨_, rfl⟩;obtain ⟨z, hz⟩ : ∃ z, z = so m := ⟨_, rfl⟩;have k1 := HF.out.1 m (by omega) (by omega) wr HR.out.2;rw [← hz] at k1;have H1 := Lib.hid (And.intro k1 hz);have HQ := Lib.hid (And.intro hq hm);have hq' : (b - a + 1).tdiv 2 = q := hq.symm;have hm2 : a < m ∧ m ≤ b := by omega
        clear k1 hz e0 hq;go_upto_region 5 with fail
        try rw [hq']
        clear hq';rw [← hm];clear hm;cases z
        · go_wp2_with (go_at_call 64; refine H1.out.1.mono ?_; rintro e w' ⟨rfl, b1⟩; have HB1 := Lib.hid (HR.out.2.trans (b1.mono HR.out.2.size)); clear b1)
          go_roundg (gk - 1);case measure => omega
          case rel => exact ⟨a, m - 1, by omega, ha, by omega, by omega, rfl, by go_num, ⟨HR.out.1.1, fun n h1 h2 => by
            cases hn : so n with
            | false => rfl
            | true => have := HF.out.2 m n (by omega) (by omega) h2 hn; rw [← H1.out.2] at this; cases this⟩, HB1.out⟩
        · go_wp2_with (go_at_call 64; refine H1.out.1.mono ?_; rintro e w' ⟨rfl, b1⟩; have HB1 := Lib.hid (HR.out.2.trans (b1.mono HR.out.2.size)); clear b1)
          go_roundg (gk - 1);case measure => omega
          case rel => exact ⟨m, b, by omega, by omega, by omega, hb, rfl, rfl, ⟨H1.out.2.symm, HR.out.1.2⟩, HB1.out⟩
      · obtain rfl : a = b := by omega
        go_wp2_with fail
        go_ret2
        exact ⟨a, true, rfl, .inl ⟨rfl, ha, hb, HR.out.1.1, HR.out.1.2⟩, HR.out.2⟩
theorem grtL_any (sb cb vb : Nat) (so : Int → Bool) (lo hi : Int) (w : World) (hlo : 0 ≤ lo ∧ lo ≤ hi ∧ hi ≤ 1000) (hmono : ∀ a b, lo ≤ a → a ≤ b → b ≤ hi → so b = true → so a = true)
    (hf : ∀ n, lo ≤ n → n ≤ hi → ∀ wx, Below w.heap.size w wx → Calls Tryz.prog 62 #[.int .i64 n, .pointer (some ⟨sb, 0, none⟩), .pointer (some ⟨cb, 0, none⟩), .pointer (some ⟨vb, 0, none⟩)] wx fun e w' => e = .returned (.bool (so n)) ∧ Below wx.heap.size wx w') :
    Calls Tryz.prog 61 #[.int .i64 lo, .int .i64 hi, .func (.func 62) #[] #[.pointer (some ⟨sb, 0, none⟩), .pointer (some ⟨cb, 0, none⟩), .pointer (some ⟨vb, 0, none⟩)]] w (GrtPost so lo hi w) := by
  have HF := Lib.hid (And.intro hf hmono);obtain ⟨z, hz⟩ : ∃ z, z = so lo := ⟨_, rfl⟩;have k0 := hf lo (Int.le_refl _) hlo.2.1 w (Below.refl _ _);rw [← hz] at k0;have H0 := Lib.hid (And.intro k0 hz);clear hf hmono k0 hz;cases z
  · go_enter Tryz.func61, Tryz.ntmps61
    go_wp2_with (go_at_call 62; refine H0.out.1.mono ?_; rintro e w' ⟨rfl, b1⟩; have HB := Lib.hid b1; clear b1)
    go_ret2
    exact ⟨0, false, rfl, .inr ⟨rfl, H0.out.2.symm, rfl⟩, HB.out⟩
  · go_enter Tryz.func61, Tryz.ntmps61
    go_upto_block 0 with (go_at_call 62; refine H0.out.1.mono ?_; rintro e w' ⟨rfl, b1⟩; have HB := Lib.hid b1; clear b1)
    go_wp2_with fail
    go_loopg [0, 1, 8] ((hi - lo).toNat) (fun g x y m wr => ∃ a b : Int, (b - a).toNat ≤ g ∧ lo ≤ a ∧ a ≤ b ∧ b ≤ hi ∧ x = .int .i64 a ∧ y = .int .i64 b ∧ (so a = true ∧ ∀ n, b < n → n ≤ hi → so n = false) ∧ Below w.heap.size w wr)
    case atStart => exact ⟨lo, hi, Nat.le_refl _, Int.le_refl _, hlo.2.1, Int.le_refl _, rfl, rfl, ⟨H0.out.2.symm, fun n h1 h2 => by omega⟩, HB.out⟩
    case round =>
      obtain ⟨a, b, hg, ha, hab, hb, rfl, rfl, hso, bb⟩ := hrel;have HR := Lib.hid (And.intro hso bb);clear hso bb;by_cases hlt : a < b
      · have e0 : (b - a + 1).tdiv 2 = (b - a + 1) / 2 := Int.tdiv_eq_ediv_of_nonneg (by omega);obtain ⟨q, hq⟩ : ∃ q, q = (b - a + 1).tdiv 2 := ⟨_, rfl⟩;have hq2 : 1 ≤ q ∧ q ≤ b - a := by omega
        obtain ⟨m, hm⟩ : ∃ m, m = a + q := ⟨_, rfl⟩;obtain ⟨z, hz⟩ : ∃ z, z = so m := ⟨_, rfl⟩;have k1 := HF.out.1 m (by omega) (by omega) wr HR.out.2;rw [← hz] at k1;have H1 := Lib.hid (And.intro k1 hz);have HQ := Lib.hid (And.intro hq hm);have hq' : (b - a + 1).tdiv 2 = q := hq.symm;have hm2 : a < m ∧ m ≤ b := by omega
        clear k1 hz e0 hq;go_upto_region 5 with fail
        try rw [hq']
        clear hq';rw [← hm];clear hm;cases z
        · go_wp2_with (go_at_call 62; refine H1.out.1.mono ?_; rintro e w' ⟨rfl, b1⟩; have HB1 := Lib.hid (HR.out.2.trans (b1.mono HR.out.2.size)); clear b1)
          go_roundg (gk - 1);case measure => omega
          case rel => exact ⟨a, m - 1, by omega, ha, by omega, by omega, rfl, by go_num, ⟨HR.out.1.1, fun n h1 h2 => by
            cases hn : so n with
            | false => rfl
            | true => have := HF.out.2 m n (by omega) (by omega) h2 hn; rw [← H1.out.2] at this; cases this⟩, HB1.out⟩
        · go_wp2_with (go_at_call 62; refine H1.out.1.mono ?_; rintro e w' ⟨rfl, b1⟩; have HB1 := Lib.hid (HR.out.2.trans (b1.mono HR.out.2.size)); clear b1)
          go_roundg (gk - 1);case measure => omega
          case rel => exact ⟨m, b, by omega, by omega, by omega, hb, rfl, rfl, ⟨H1.out.2.symm, HR.out.1.2⟩, HB1.out⟩
      · obtain rfl : a = b := by omega
        go_wp2_with fail
        go_ret2
        exact ⟨a, true, rfl, .inl ⟨rfl, ha, hb, HR.out.1.1, HR.out.1.2⟩, HR.out.2⟩
theorem hulevel_any (n : Int) (w : World) :
    Calls Tryz.prog 63 #[.int .i64 n] w fun e w' => e = .returned (.agg #[.int .i64 100, .int .i64 n, .int .i64 0, .int .i64 0]) ∧ Below w.heap.size w w' := by
  go_enter Tryz.func63, Tryz.ntmps63
  go_wp2_with fail
  exact bodyPost_ret (v := .agg #[.int .i64 100, .int .i64 n, .int .i64 0, .int .i64 0]) (by simp [results, Tryz.results63, go_sem]) rfl ⟨rfl, (Below.refl _ _).alloc (Nat.le_refl _) _⟩
end Go.Proofs.YtalcinepeofmcaaGreat
namespace Go.Proofs.YtalcinepeofmcaaGreat
open Go Go.RowKit Sp
theorem icein_any (n lo hi : Int) (w : World) :
    Calls Tryz.prog 115 #[.int .i64 n, .int .i64 lo, .int .i64 hi] w fun e w' => e = .returned (.bool (within n lo hi)) ∧ w = w' := by
  go_enter Tryz.func115, Tryz.ntmps115
  go_wp2
  all_goals (go_ret; refine ⟨?_, rfl⟩; simp [within]; try omega)
theorem most_any (w : World) :
    Calls Tryz.prog 116 #[] w fun e w' => e = .returned (.agg #[.int .i64 100, .int .i64 400, .int .i64 100, .int .i64 3]) ∧ Below w.heap.size w w' := by
  go_enter Tryz.func116, Tryz.ntmps116
  go_wp2_with fail
  refine bodyPost_ret (v := .agg #[.int .i64 100, .int .i64 400, .int .i64 100, .int .i64 3]) (by simp [results, Tryz.results116, go_sem]) rfl ⟨rfl, (Below.refl _ _).alloc (Nat.le_refl _) _⟩
structure Ice where
  con : Int
  thk : Int
  rid : Int
  prs : Int
deriving DecidableEq, Inhabited
theorem numbers_any (x : Ice) (w : World) :
    Calls Tryz.prog 112 #[.agg #[.int .i64 x.con, .int .i64 x.thk, .int .i64 x.rid, .int .i64 x.prs]] w fun e w' => e = .returned (.agg #[.int .i64 x.con, .int .i64 x.thk, .int .i64 x.rid, .int .i64 x.prs]) ∧ Below w.heap.size w w' := by
  go_enter Tryz.func112, Tryz.ntmps112
  go_wp2_with fail
  exact bodyPost_ret (v := .agg #[.int .i64 x.con, .int .i64 x.thk, .int .i64 x.rid, .int .i64 x.prs]) (by simp [results, Tryz.results112, go_sem]) rfl ⟨rfl, ((Below.refl _ _).alloc (Nat.le_refl _) _).alloc (by simp) _⟩
theorem most_index (w : World) :
    ((Instr.index 195 (.agg #[.int .i64 100, .int .i64 400, .int .i64 100, .int .i64 3]) (.int .i64 0)).run Tryz.prog w = .ok (.int .i64 100) w ∧ (Instr.index 195 (.agg #[.int .i64 100, .int .i64 400, .int .i64 100, .int .i64 3]) (.int .i64 1)).run Tryz.prog w = .ok (.int .i64 400) w) ∧
    ((Instr.index 195 (.agg #[.int .i64 100, .int .i64 400, .int .i64 100, .int .i64 3]) (.int .i64 2)).run Tryz.prog w = .ok (.int .i64 100) w ∧ (Instr.index 195 (.agg #[.int .i64 100, .int .i64 400, .int .i64 100, .int .i64 3]) (.int .i64 3)).run Tryz.prog w = .ok (.int .i64 3) w) := by
  have u3 := Tryz.underlying3;have a3 := Tryz.isAgg3;have z3 := Tryz.sizeOf3;have u4 := Tryz.underlying195;simp [Instr.index, asIntOf, run_underlying u4, part, isAgg, run_underlying u3, z3, go_sem]
def iceN (x : Ice) : Nat → Int
  | 0 => x.con
  | 1 => x.thk
  | 2 => x.rid
  | _ => x.prs
def mostN : Nat → Int
  | 0 => 100
  | 1 => 400
  | 2 => 100
  | _ => 3
def iceOk (x : Ice) : Bool := within x.con 0 100 && within x.thk 0 400 && within x.rid 0 100 && within x.prs 0 3
theorem ckice_any (x : Ice) (b : Nat) (k : Nat) (hk : k < 4) (w : World) (hb : w.heap[b]? = some (.cells #[.int .i64 x.con, .int .i64 x.thk, .int .i64 x.rid, .int .i64 x.prs] 195 (0, 0))) :
    Calls Tryz.prog 114 #[.int .i64 k, .pointer (some ⟨b, 0, none⟩)] w fun e w' => e = .returned (.bool (within (iceN x k) 0 (mostN k))) ∧ Below w.heap.size w w' := by
  have c0 := (cOH hb 0).trans rfl;have c1 := (cOH hb 1).trans rfl;have c2 := (cOH hb 2).trans rfl;have c3 := (cOH hb 3).trans rfl;have zb := hL_ hb;have KC : ∀ {b o : Nat} {u : Value}, w.cell? ⟨b, o, none⟩ = some u → ∀ w', Below w.heap.size w w' → w'.cell? ⟨b, o, none⟩ = some u := fun h w' hb => (hb.cell (World.block_lt_of_cell? w _ h)).trans h;have c0' := KC c0;have c1' := KC c1;have c2' := KC c2;have c3' := KC c3;clear KC hb;obtain ⟨r, hr⟩ : ∃ r, r = within (iceN x k) 0 (mostN k) := ⟨_, rfl⟩;have kin : ∀ wx, Calls Tryz.prog 115 #[.int .i64 (iceN x k), .int .i64 0, .int .i64 (mostN k)] wx fun e w' => e = .returned (.bool r) ∧ wx = w' := fun wx => by rw [hr]; exact icein_any _ _ _ wx
  rw [← hr];have H := Lib.hid kin;clear kin hr;rcases (by omega : k = 0 ∨ k = 1 ∨ k = 2 ∨ k = 3) with rfl | rfl | rfl | rfl
  · show Calls Tryz.prog 114 #[.int .i64 0, .pointer (some ⟨b, 0, none⟩)] w _
    go_enter Tryz.func114, Tryz.ntmps114
    go_upto_region 1 with fail
    have hx0 := fun w => (most_index w).1.1;have hx1 := fun w => (most_index w).1.2;have hx2 := fun w => (most_index w).2.1;have hx3 := fun w => (most_index w).2.2
    go_region_held3 (fun w' => Below w.heap.size w w') (first | exact (Below.refl _ _).drew | assumption)
      (first
        | (go_at_call 116
           refine (most_any _).mono ?_;rintro e w2 ⟨rfl, b2⟩;have B2 : Below w.heap.size w w2 := (Below.refl _ _).drew.trans b2;clear b2)
        | (go_at_call 115
           refine (H.out _).mono ?_;rintro e w3 ⟨rfl, rfl⟩))
    have HB := Lib.hid B2;clear B2;go_wp2_with fail
    go_ret;exact ⟨rfl, HB.out⟩
  · show Calls Tryz.prog 114 #[.int .i64 1, .pointer (some ⟨b, 0, none⟩)] w _
    go_enter Tryz.func114, Tryz.ntmps114
    go_upto_region 1 with fail
    have hx0 := fun w => (most_index w).1.1;have hx1 := fun w => (most_index w).1.2;have hx2 := fun w => (most_index w).2.1;have hx3 := fun w => (most_index w).2.2
    go_region_held3 (fun w' => Below w.heap.size w w') (first | exact (Below.refl _ _).drew | assumption)
      (first
        | (go_at_call 116
           refine (most_any _).mono ?_;rintro e w2 ⟨rfl, b2⟩;have B2 : Below w.heap.size w w2 := (Below.refl _ _).drew.trans b2;clear b2)
        | (go_at_call 115
           refine (H.out _).mono ?_;rintro e w3 ⟨rfl, rfl⟩))
    have HB := Lib.hid B2;clear B2;go_wp2_with fail
    go_ret;exact ⟨rfl, HB.out⟩
  · show Calls Tryz.prog 114 #[.int .i64 2, .pointer (some ⟨b, 0, none⟩)] w _
    go_enter Tryz.func114, Tryz.ntmps114
    go_upto_region 1 with fail
    have hx0 := fun w => (most_index w).1.1;have hx1 := fun w => (most_index w).1.2;have hx2 := fun w => (most_index w).2.1;have hx3 := fun w => (most_index w).2.2
    go_region_held3 (fun w' => Below w.heap.size w w') (first | exact (Below.refl _ _).drew | assumption)
      (first
        | (go_at_call 116
           refine (most_any _).mono ?_;rintro e w2 ⟨rfl, b2⟩;have B2 : Below w.heap.size w w2 := (Below.refl _ _).drew.trans b2;clear b2)
        | (go_at_call 115
           refine (H.out _).mono ?_;rintro e w3 ⟨rfl, rfl⟩))
    have HB := Lib.hid B2;clear B2;go_wp2_with fail
    go_ret;exact ⟨rfl, HB.out⟩
  · show Calls Tryz.prog 114 #[.int .i64 3, .pointer (some ⟨b, 0, none⟩)] w _
    go_enter Tryz.func114, Tryz.ntmps114
    go_upto_region 1 with fail
    have hx0 := fun w => (most_index w).1.1;have hx1 := fun w => (most_index w).1.2;have hx2 := fun w => (most_index w).2.1;have hx3 := fun w => (most_index w).2.2
    go_region_held3 (fun w' => Below w.heap.size w w') (first | exact (Below.refl _ _).drew | assumption)
      (first
        | (go_at_call 116
           refine (most_any _).mono ?_;rintro e w2 ⟨rfl, b2⟩;have B2 : Below w.heap.size w w2 := (Below.refl _ _).drew.trans b2;clear b2)
        | (go_at_call 115
           refine (H.out _).mono ?_;rintro e w3 ⟨rfl, rfl⟩))
    have HB := Lib.hid B2;clear B2;go_wp2_with fail
    go_ret;exact ⟨rfl, HB.out⟩
theorem allIce_any (b : Nat) (g : Nat → Bool) (w : World) (hg : ∀ k : Nat, k < 4 → ∀ wx, Below w.heap.size w wx → Calls Tryz.prog 114 #[.int .i64 k, .pointer (some ⟨b, 0, none⟩)] wx fun e w' => e = .returned (.bool (g k)) ∧ Below wx.heap.size wx w') :
    Calls Tryz.prog 113 #[.func (.func 114) #[] #[.pointer (some ⟨b, 0, none⟩)]] w fun e w' => e = .returned (.bool (g 0 && g 1 && g 2 && g 3)) ∧ Below w.heap.size w w' := by
  have HG := Lib.hid hg;clear hg
  go_enter Tryz.func113, Tryz.ntmps113
  go_wp2_with (go_at_call 116; refine (most_any _).mono ?_; rintro e w1 ⟨rfl, b1⟩)
  go_loopw [5] (fun i wr => ∃ k : Nat, k ≤ 4 ∧ i = .int .i64 k ∧ (∀ j, j < k → g j = true) ∧ Below w.heap.size w wr) (fun i _ => 4 - (intOf i).toNat)
  case atStart => exact ⟨0, by omega, rfl, by omega, b1⟩
  case round =>
    obtain ⟨k, hk, rfl, hall, hb⟩ := hrel;have HB := Lib.hid (And.intro hall hb);clear hall hb b1;by_cases hlt : k < 4
    · obtain ⟨r, hr⟩ : ∃ r, r = g k := ⟨_, rfl⟩;have hc := HG.out k hlt wr HB.out.2;rw [← hr] at hc;have n2 : (k : Int) < 4 := by omega
      have HC := Lib.hid (And.intro hc hr);clear hc hr;cases r
      · go_wp2_with (go_at_call 114; refine HC.out.1.mono ?_; rintro e w2 ⟨rfl, b2⟩)
        go_ret;refine ⟨?_, HB.out.2.trans (b2.mono HB.out.2.size)⟩;have hf := HC.out.2.symm;have : (g 0 && g 1 && g 2 && g 3) = false := by
          rcases (by omega : k = 0 ∨ k = 1 ∨ k = 2 ∨ k = 3) with rfl | rfl | rfl | rfl <;> simp [hf]
        rw [this]; rfl
      · go_wp2_with (go_at_call 114; refine HC.out.1.mono ?_; rintro e w2 ⟨rfl, b2⟩)
        go_roundw;case measure => simp [intOf]; omega
        case rel =>
          refine ⟨k + 1, by omega, by go_num, fun j hj => ?_, HB.out.2.trans (b2.mono HB.out.2.size)⟩;by_cases h : j = k
          · rw [h, ← HC.out.2]
          · exact HB.out.1 j (by omega)
    · obtain rfl : k = 4 := by omega
      go_wp2_with fail
      go_ret;refine ⟨?_, HB.out.2⟩;have h := HB.out.1;rw [h 0 (by omega), h 1 (by omega), h 2 (by omega), h 3 (by omega)]; rfl
def iceE (x : Ice) : Int := if iceOk x then 0 else 20
theorem checkIce_any (x : Ice) (w : World) :
    Calls Tryz.prog 99 #[.agg #[.int .i64 x.con, .int .i64 x.thk, .int .i64 x.rid, .int .i64 x.prs]] w fun e w' => e = .returned (.int .i64 (iceE x)) ∧ Below w.heap.size w w' := by
  obtain ⟨r, hr⟩ : ∃ r, r = iceOk x := ⟨_, rfl⟩;have hE : iceE x = if r then 0 else 20 := by rw [hr]; rfl
  have b0 : Below w.heap.size w (w.alloc (.cells #[.int .i64 x.con, .int .i64 x.thk, .int .i64 x.rid, .int .i64 x.prs] 141)) := (Below.refl _ _).alloc (Nat.le_refl _) _;have HR := Lib.hid (And.intro hr (And.intro hE b0));clear hr hE b0
  go_enter Tryz.func99, Tryz.ntmps99
  go_upto_region 2 with (go_at_call 112; refine (numbers_any x _).mono ?_; rintro e w1 ⟨rfl, b1⟩)
  have bb := HR.out.2.2.trans (b1.mono (by simp));obtain ⟨W, hW⟩ : ∃ W, W = w1.alloc (.cells #[.int .i64 x.con, .int .i64 x.thk, .int .i64 x.rid, .int .i64 x.prs] 195) := ⟨_, rfl⟩;obtain ⟨nb, hnb⟩ : ∃ b, b = w1.heap.size := ⟨_, rfl⟩;have hh : W.heap[nb]? = some (.cells #[.int .i64 x.con, .int .i64 x.thk, .int .i64 x.rid, .int .i64 x.prs] 195 (0, 0)) := by rw [hW, hnb]; exact heap_alloc_new _ _
  have bW : Below w.heap.size w W := by rw [hW]; exact bb.alloc bb.size _
  rw [← hW, ← hnb];have ka := allIce_any nb (fun k => within (iceN x k) 0 (mostN k)) W (fun (k : Nat) hk wx hx => ckice_any x nb k hk wx ((hx.block _ (hL_ hh)).trans hh));have hk : (within (iceN x 0) 0 (mostN 0) && within (iceN x 1) 0 (mostN 1) && within (iceN x 2) 0 (mostN 2) && within (iceN x 3) 0 (mostN 3)) = r := HR.out.1.symm;rw [hk] at ka;have HA := Lib.hid (And.intro ka bW);clear ka bW hh hW hnb bb b1 hk;cases r
  · go_wp2_with (go_at_call 113; refine HA.out.1.mono ?_; rintro e w2 ⟨rfl, b2⟩)
    go_ret;exact ⟨by rw [HR.out.2.1]; rfl, HA.out.2.trans (b2.mono HA.out.2.size)⟩
  · go_wp2_with (go_at_call 113; refine HA.out.1.mono ?_; rintro e w2 ⟨rfl, b2⟩)
    go_ret;exact ⟨by rw [HR.out.2.1]; rfl, HA.out.2.trans (b2.mono HA.out.2.size)⟩
end Go.Proofs.YtalcinepeofmcaaGreat



