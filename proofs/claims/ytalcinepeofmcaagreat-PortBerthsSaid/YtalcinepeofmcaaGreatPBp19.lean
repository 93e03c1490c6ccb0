import Derived.Test.YtalcinepeofmcaaGreatPBp18
import Derived.Test.YtalcinepeofmcaaGreatPBp5
import Derived.BigQuiet
import Derived.Test.YtalcinepeofmcaaGreatPBp12
import Derived.Test.YtalcinepeofmcaaGreatPBp13
import Derived.Test.YtalcinepeofmcaaGreatPBp6
import Derived.Test.YtalcinepeofmcaaGreatPBp2
import Derived.Test.YtalcinepeofmcaaGreatPBp11
import Derived.Test.YtalcinepeofmcaaGreatProg
import Derived.Test.YtalcinepeofmcaaGreatPBp0
import Derived.Laws.StructEq
import Derived.Deep.RegionHeld3
import Derived.Test.YtalcinepeofmcaaGreatPBp1
import Derived.Test.YtalcinepeofmcaaGreatPBp10
set_option linter.unusedVariables false
set_option linter.unusedSimpArgs false
set_option maxRecDepth 100000
set_option maxHeartbeats 40000000
namespace Go.Proofs.YtalcinepeofmcaaGreat.Pt
open Sp
def mustQ (a d v : Vst) : Bool := decide (d.dra ≤ v.dra) && (decide (v.last ≤ a.last) && decide (a.last < v.arr + v.stay))
def mustN (l : List Vst) (a d : Vst) (k : Nat) : Nat := (l.take k).countP (mustQ a d)
def bertN (p : Prt) (d : Vst) (k : Nat) : Nat := (p.bts.take k).countP fun b => decide (d.dra ≤ b.depth)
def crowdM (p : Prt) (l : List Vst) (a : Vst) (s : Int × Int) (k : Nat) : Int × Int := (l.take k).foldl (crowd1 p l a) s
def crowdN (p : Prt) (l : List Vst) (k : Nat) : Int × Int := (l.take k).foldl (crowdA p l) (-1, 0)
section
variable {p : Prt} {l : List Vst} {a d : Vst} {k : Nat}
theorem mustN_succ (hk : k < l.length) : mustN l a d (k + 1) = mustN l a d k + if mustQ a d l[k] = true then 1 else 0 := by
  unfold mustN;rw [List.take_succ_eq_append_getElem hk, List.countP_append, List.countP_singleton]
theorem mustN_all : mustN l a d l.length = mustOf l a d := by unfold mustN mustOf; rw [List.take_length]; rfl
theorem mustN_le : mustN l a d k ≤ l.length := by
  unfold mustN;exact Nat.le_trans List.countP_le_length (by rw [List.length_take]; omega)
theorem bertN_succ (hk : k < p.bts.length) : bertN p d (k + 1) = bertN p d k + if d.dra ≤ (p.bts[k]).depth then 1 else 0 := by
  unfold bertN;rw [List.take_succ_eq_append_getElem hk, List.countP_append, List.countP_singleton];simp
theorem bertN_all : bertN p d p.bts.length = bertOf p d := by unfold bertN bertOf; rw [List.take_length]
theorem bertN_le : bertN p d k ≤ p.bts.length := by
  unfold bertN;exact Nat.le_trans List.countP_le_length (by rw [List.length_take]; omega)
theorem crowdM_succ {s : Int × Int} (hk : k < l.length) : crowdM p l a s (k + 1) = crowd1 p l a (crowdM p l a s k) l[k] := by
  unfold crowdM;rw [List.take_succ_eq_append_getElem hk, List.foldl_append]; rfl
theorem crowdM_all {s : Int × Int} : crowdM p l a s l.length = crowdA p l s a := by unfold crowdM crowdA; rw [List.take_length]
theorem crowdN_succ (hk : k < l.length) : crowdN p l (k + 1) = crowdA p l (crowdN p l k) l[k] := by
  unfold crowdN;rw [List.take_succ_eq_append_getElem hk, List.foldl_append]; rfl
theorem crowdN_all : crowdN p l l.length = crowdS p l := by unfold crowdN crowdS; rw [List.take_length]
end
end Go.Proofs.YtalcinepeofmcaaGreat.Pt
namespace Go.Proofs.YtalcinepeofmcaaGreat
open Go Go.RowKit Sp Pt
def CrowdPost (w : World) (p : Prt) (l : List Vst) (e : Ending) (w' : World) : Prop :=
  e = .returned (.tuple #[.int .i64 (crowdH p l), .int .i64 (crowdD p l), .int .i64 (crowdE p l)]) ∧ Below w.heap.size w w'
theorem crowd_no {w w' : World} {p : Prt} {l : List Vst} {er : Int} (he : crowdE p l = er) (h0 : er ≠ 0) (b : Below w.heap.size w w') : CrowdPost w p l (.returned (.tuple #[.int .i64 0, .int .i64 0, .int .i64 er])) w' := by
  have e1 : crowdH p l = 0 := by unfold crowdH; rw [if_neg (by rw [he]; exact h0)]
  have e2 : crowdD p l = 0 := by unfold crowdD; rw [if_neg (by rw [he]; exact h0)]
  exact ⟨by rw [e1, e2, he], b⟩
theorem vst_at {D : Nat} {w : World} {A : Option Addr} {l : List Vst} (h : RdB D w 4 A l.length (vscs l)) {k : Nat} (hk : k < l.length) : ∃ b off, A = some ⟨b, off, none⟩ ∧ b < D ∧ w.cell? ⟨b, off + k * 4, none⟩ = some (.int .i64 l[k].arr) ∧
    w.cell? ⟨b, off + k * 4 + 1, none⟩ = some (.int .i64 l[k].last) ∧ w.cell? ⟨b, off + k * 4 + 2, none⟩ = some (.int .i64 l[k].stay) ∧ w.cell? ⟨b, off + k * 4 + 3, none⟩ = some (.int .i64 l[k].dra) := by
  obtain ⟨b, off, e, hb, hc⟩ := h.2 (by omega);obtain ⟨g0, g1, g2, g3⟩ := vscs_get hk;exact ⟨b, off, e, hb, hc _ _ g0, hc _ _ g1, hc _ _ g2, hc _ _ g3⟩
theorem Crowded_any (D : Nat) (Ac : Option Addr) (cc : Nat) (Ab : Option Addr) (cb : Nat) (p : Prt) (Av : Option Addr) (cv : Nat) (l : List Vst) (w : World) (PB : PrtB D w Ac cc Ab cb p) (VB : RdB D w 4 Av l.length (vscs l)) (hD : D ≤ w.heap.size) :
    Calls Tryz.prog 20 #[.agg (prtV Ac cc Ab cb p), .slice Av l.length cv] w (CrowdPost w p l) := by
  obtain ⟨W, hW⟩ : ∃ W, W = w.alloc (.cells (prtV Ac cc Ab cb p) 25) := ⟨_, rfl⟩;obtain ⟨pb, hpb⟩ : ∃ b, b = w.heap.size := ⟨_, rfl⟩;have hh : W.heap[pb]? = some (.cells (prtV Ac cc Ab cb p) 25 (0, 0)) := by rw [hW, hpb]; exact heap_alloc_new _ _
  have b0 : Below w.heap.size w W := by rw [hW]; exact (Below.refl _ _).alloc (Nat.le_refl _) _
  have hD1 : D ≤ W.heap.size := by have := b0.size; omega
  have c0 : W.cell? ⟨pb, 0, none⟩ = some (.slice Ac p.chs.length cc) := (cOH hh 0).trans rfl;have c1 : W.cell? ⟨pb, 1, none⟩ = some (.slice Ab p.bts.length cb) := (cOH hh 1).trans rfl;have c2 : W.cell? ⟨pb, 2, none⟩ = some (.int .i64 p.tugs) := (cOH hh 2).trans rfl;have zp := hL_ hh;obtain ⟨er, her⟩ : ∃ er, er = askedE p l := ⟨_, rfl⟩;have PB1 := PB.below (b0.mono hD);have VB1 := VB.below (b0.mono hD);have ka := asked_any D Ac cc Ab cb p Av cv l W PB1 (VB1.rd hD1) hD1;rw [← her] at ka;have H := Lib.hid (And.intro b0 (And.intro her (And.intro ka (And.intro PB1 (And.intro VB1 hh)))));clear hh b0 ka her PB VB PB1 VB1
  go_enter Tryz.func20, Tryz.ntmps20
  go_upto_region 1 with fail
  rw [← hW, ← hpb];clear hW hpb;by_cases h0 : er = 0
  · subst h0;have hck : checkP p = 0 ∧ l.length ≤ 5 ∧ l.all vstOk = true := by
      have hok := H.out.2.1.symm;unfold askedE at hok;split at hok
      · rename_i h; exact absurd hok h
      · rename_i h
        split at hok
        · cases hok
        · split at hok
          · cases hok
          · rename_i h2 h3; exact ⟨by omega, by omega, by simpa using h3⟩
    have hnl := hck.2.1;have hnb := (checkP_ok hck.1).nb;have hvok : ∀ v ∈ l, 0 ≤ v.arr ∧ v.arr ≤ 1000 ∧ v.arr ≤ v.last ∧ v.last ≤ 2000 ∧ 1 ≤ v.stay ∧ v.stay ≤ 100 ∧ 10 ≤ v.dra ∧ v.dra ≤ 3000 := fun v hv => by
      have := List.all_eq_true.1 hck.2.2 v hv;simp only [vstOk, Bool.and_eq_true, Pt.within_iff] at this;omega
    have HV := Lib.hid hvok;clear hck hvok;go_upto_region 4 with (go_at_call 40; refine H.out.2.2.1.mono ?_; rintro e w1 ⟨rfl, b1⟩; have B1 := Lib.hid b1; clear b1)
    have hh1 := (B1.out.block _ (hL_ H.out.2.2.2.2.2)).trans H.out.2.2.2.2.2;have hDw : D ≤ w1.heap.size := by have := B1.out.size; omega
    have G := Lib.hid (And.intro (H.out.2.2.2.1.below (B1.out.mono hD1)) (And.intro (H.out.2.2.2.2.1.below (B1.out.mono hD1)) (And.intro hh1 (And.intro (H.out.1.trans (B1.out.mono H.out.1.size)) hDw))));clear c0 c1 c2 zp hh1 hDw;go_wp2_with fail
    go_loopg [8, 9, 28] (l.length) (fun g s1 s2 i wr => ∃ k : Nat, g + k = l.length ∧ i = .int .i64 k ∧ s1 = .int .i64 (crowdN p l k).1 ∧ s2 = .int .i64 (crowdN p l k).2 ∧ Keep [] w1 wr)
    case atStart => exact ⟨0, rfl, rfl, rfl, rfl, Keep.refl _ _⟩
    case round =>
      obtain ⟨k, hk, rfl, rfl, rfl, hK⟩ := hrel;obtain ⟨sk, hsk⟩ : ∃ s, s = crowdN p l k := ⟨_, rfl⟩;rw [← hsk];obtain ⟨s1, s2⟩ := sk;by_cases hlt : k < l.length
      · obtain ⟨gb, rfl⟩ : ∃ gb, gb = gk := ⟨_, rfl⟩;have bD := hK.below' G.out.2.2.2.2 (by simp);obtain ⟨b, off, eA, hbD, d0, d1, d2, d3⟩ := vst_at (G.out.2.1.below bD) hlt;obtain ⟨x, hx⟩ : ∃ x, x = l[k] := ⟨_, rfl⟩;rw [← hx] at d0 d1 d2 d3;have zb := World.block_lt_of_cell? _ _ d0;obtain ⟨aa, al, ay, ad⟩ := x;simp only at d0 d1 d2 d3;obtain ⟨W2, hW2⟩ : ∃ W2, W2 = wr.alloc (.cells #[.int .i64 aa, .int .i64 al, .int .i64 ay, .int .i64 ad] 44) := ⟨_, rfl⟩;obtain ⟨xb, hxb⟩ : ∃ xb, xb = wr.heap.size := ⟨_, rfl⟩;have hxh : W2.heap[xb]? = some (.cells #[.int .i64 aa, .int .i64 al, .int .i64 ay, .int .i64 ad] 44 (0, 0)) := by rw [hW2, hxb]; exact heap_alloc_new _ _
        have k2 : Keep [] w1 W2 := by rw [hW2]; exact hK.alloc _
        have HI := Lib.hid (And.intro hsk (And.intro k2 (And.intro hx hxh)));clear hsk hK bD hx hxh k2;rw [eA];go_upto_region 8 with fail
        rw [← hW2, ← hxb];clear hW2 hxb d0 d1 d2 d3 zb;go_wp2_with fail
        go_loopg [8, 9, 34] (l.length) (fun g s1' s2' i wr => ∃ j : Nat, g + j = l.length ∧ i = .int .i64 j ∧ s1' = .int .i64 (crowdM p l ⟨aa, al, ay, ad⟩ (s1, s2) j).1 ∧ s2' = .int .i64 (crowdM p l ⟨aa, al, ay, ad⟩ (s1, s2) j).2 ∧ Keep [] W2 wr)
        case atStart => exact ⟨0, rfl, rfl, rfl, rfl, Keep.refl _ _⟩
        case round =>
          obtain ⟨j, hj, rfl, rfl, rfl, hKj⟩ := hrel;obtain ⟨sj, hsj⟩ : ∃ s, s = crowdM p l ⟨aa, al, ay, ad⟩ (s1, s2) j := ⟨_, rfl⟩;rw [← hsj];obtain ⟨t1, t2⟩ := sj;by_cases hlj : j < l.length
          · obtain ⟨gc, rfl⟩ : ∃ gc, gc = gk := ⟨_, rfl⟩;have bD := (HI.out.2.1.trans hKj (by simp)).below' G.out.2.2.2.2 (by simp);obtain ⟨b', off', eA', hbD', d0, d1, d2, d3⟩ := vst_at (G.out.2.1.below bD) hlj;obtain ⟨y, hy⟩ : ∃ y, y = l[j] := ⟨_, rfl⟩;rw [← hy] at d0 d1 d2 d3;have zb := World.block_lt_of_cell? _ _ d0;obtain ⟨da, dl, dy, dd⟩ := y;simp only at d0 d1 d2 d3;rw [eA] at eA';injection eA' with eA'
            injection eA' with e1 e2 _
            subst e1 e2;obtain ⟨W3, hW3⟩ : ∃ W3, W3 = wr.alloc (.cells #[.int .i64 da, .int .i64 dl, .int .i64 dy, .int .i64 dd] 44) := ⟨_, rfl⟩;obtain ⟨yb, hyb⟩ : ∃ yb, yb = wr.heap.size := ⟨_, rfl⟩;have hyh : W3.heap[yb]? = some (.cells #[.int .i64 da, .int .i64 dl, .int .i64 dy, .int .i64 dd] 44 (0, 0)) := by rw [hW3, hyb]; exact heap_alloc_new _ _
            have k3 : Keep [] W2 W3 := by rw [hW3]; exact hKj.alloc _
            have hxh3 := (k3.block _ (hL_ HI.out.2.2.2) (by simp)).trans HI.out.2.2.2;have HJ := Lib.hid (And.intro hsj (And.intro (HI.out.2.1.trans k3 (by simp)) (And.intro hy (And.intro hyh (And.intro hxh3 k3)))));clear hsj hKj bD hy hyh k3 hxh3;go_upto_region 11 with fail
            rw [← hW3, ← hyb];clear hW3 hyb d0 d1 d2 d3 zb
            go_upto_block 4 with fail
            go_cut [14] from 41 to 68 (fun n wx => n = .int .i64 (mustOf l ⟨aa, al, ay, ad⟩ ⟨da, dl, dy, dd⟩ : Nat) ∧ Keep [] W3 wx)
            case first =>
              go_wp2_with fail
              go_loopg [14, 40] (l.length) (fun g n i wr => ∃ m : Nat, g + m = l.length ∧ i = .int .i64 m ∧ n = .int .i64 (mustN l ⟨aa, al, ay, ad⟩ ⟨da, dl, dy, dd⟩ m : Nat) ∧ Keep [] W3 wr)
              case atStart => exact ⟨0, rfl, rfl, rfl, Keep.refl _ _⟩
              case round =>
                obtain ⟨m, hm, rfl, rfl, hKm⟩ := hrel;obtain ⟨cn, hcn⟩ : ∃ n, n = mustN l ⟨aa, al, ay, ad⟩ ⟨da, dl, dy, dd⟩ m := ⟨_, rfl⟩;have hcl : cn ≤ l.length := by rw [hcn]; exact mustN_le
                rw [← hcn];by_cases hlm : m < l.length
                · have bD := (HJ.out.2.1.trans hKm (by simp)).below' G.out.2.2.2.2 (by simp);obtain ⟨b', off', eA', hbD', d0, d1, d2, d3⟩ := vst_at (G.out.2.1.below bD) hlm;obtain ⟨z, hz⟩ : ∃ z, z = l[m] := ⟨_, rfl⟩;have hzo := HV.out l[m] (List.getElem_mem _);have hsu := mustN_succ (a := ⟨aa, al, ay, ad⟩) (d := ⟨da, dl, dy, dd⟩) hlm;rw [← hz] at d0 d1 d2 d3 hzo hsu;rw [← hcn] at hsu;have zb := World.block_lt_of_cell? _ _ d0;obtain ⟨va, vl, vy, vd⟩ := z;simp only at d0 d1 d2 d3 hzo;rw [eA] at eA';injection eA' with eA'
                  injection eA' with e1 e2 _
                  subst e1 e2;obtain ⟨W4, hW4⟩ : ∃ W4, W4 = wr.alloc (.cells #[.int .i64 va, .int .i64 vl, .int .i64 vy, .int .i64 vd] 44) := ⟨_, rfl⟩;obtain ⟨vb, hvb⟩ : ∃ vb, vb = wr.heap.size := ⟨_, rfl⟩;have hvh : W4.heap[vb]? = some (.cells #[.int .i64 va, .int .i64 vl, .int .i64 vy, .int .i64 vd] 44 (0, 0)) := by rw [hW4, hvb]; exact heap_alloc_new _ _
                  have k4 : Keep [] W3 W4 := by rw [hW4]; exact hKm.alloc _
                  have ha := (k4.block _ (hL_ HJ.out.2.2.2.2.1) (by simp)).trans HJ.out.2.2.2.2.1;have hd := (k4.block _ (hL_ HJ.out.2.2.2.1) (by simp)).trans HJ.out.2.2.2.1;have a1 : W4.cell? ⟨xb, 1, none⟩ = some (.int .i64 al) := (cOH ha 1).trans rfl;have f3 : W4.cell? ⟨yb, 3, none⟩ = some (.int .i64 dd) := (cOH hd 3).trans rfl;have v0 : W4.cell? ⟨vb, 0, none⟩ = some (.int .i64 va) := (cOH hvh 0).trans rfl;have v1 : W4.cell? ⟨vb, 1, none⟩ = some (.int .i64 vl) := (cOH hvh 1).trans rfl;have v2 : W4.cell? ⟨vb, 2, none⟩ = some (.int .i64 vy) := (cOH hvh 2).trans rfl;have v3 : W4.cell? ⟨vb, 3, none⟩ = some (.int .i64 vd) := (cOH hvh 3).trans rfl;have y1 := hL_ ha;have y2 := hL_ hd;have y3 := hL_ hvh;have HM := Lib.hid (And.intro hsu k4);clear hsu k4 ha hd hvh hKm bD hz hcn;go_upto_region 15 with fail
                  rw [← hW4, ← hvb];clear hW4 hvb d0 d1 d2 d3 zb;obtain ⟨t, ht⟩ : ∃ t, t = mustQ ⟨aa, al, ay, ad⟩ ⟨da, dl, dy, dd⟩ ⟨va, vl, vy, vd⟩ := ⟨_, rfl⟩;have HT := Lib.hid ht
                  go_cut [65] from 44 to 65 (fun b wx => b = .bool t ∧ W4 = wx)
                  case first =>
                    by_cases x1 : dd ≤ vd
                    · by_cases x2 : vl ≤ al
                      · by_cases x3 : al < va + vy
                        · go_wp2_with fail
                          go_meet
                          exact ⟨by rw [ht]; simp only [mustQ]; rw [decide_eq_true x1, decide_eq_true x2, decide_eq_true x3]; rfl, rfl⟩
                        · go_wp2_with fail
                          go_meet
                          exact ⟨by rw [ht]; simp only [mustQ]; rw [decide_eq_true x1, decide_eq_true x2, decide_eq_false (by omega)]; rfl, rfl⟩
                      · go_wp2_with fail
                        go_meet
                        exact ⟨by rw [ht]; simp only [mustQ]; rw [decide_eq_true x1, decide_eq_false (by omega)]; rfl, rfl⟩
                    · go_wp2_with fail
                      go_meet
                      exact ⟨by rw [ht]; simp only [mustQ]; rw [decide_eq_false (by omega)]; rfl, rfl⟩
                  case rest =>
                    obtain ⟨rfl, rfl⟩ := hcut;clear ht;cases t
                    · go_wp2_with fail
                      go_roundg (gk - 1);case measure => omega
                      case rel => exact ⟨m + 1, by omega, by go_num, by rw [HM.out.1, ← HT.out]; simp, HM.out.2⟩
                    · go_wp2_with fail
                      go_roundg (gk - 1);case measure => omega
                      case rel => exact ⟨m + 1, by omega, by go_num, by rw [HM.out.1, ← HT.out]; simp, HM.out.2⟩
                · obtain rfl : m = l.length := by omega
                  rw [mustN_all] at hcn;have HK := Lib.hid (And.intro hcn hKm);clear hcn hKm;go_wp2_with fail
                  go_meet
                  exact ⟨by rw [HK.out.1], HK.out.2⟩
            case rest =>
              obtain ⟨rfl, hK3⟩ := hcut;obtain ⟨W5, rfl, hK3⟩ : ∃ W5, W5 = _ ∧ Keep [] W3 W5 := ⟨_, rfl, hK3⟩;have hdd := HV.out l[j] (List.getElem_mem _);rw [← HJ.out.2.2.1] at hdd;simp only at hdd;obtain ⟨cm, hcm⟩ : ∃ n, n = mustOf l ⟨aa, al, ay, ad⟩ ⟨da, dl, dy, dd⟩ := ⟨_, rfl⟩;rw [← hcm];have HX := Lib.hid (And.intro hcm (And.intro hK3 hdd));clear hcm hK3 hdd;have hp5 := (HX.out.2.1.block _ (by have := HJ.out.2.1.size; have := hL_ G.out.2.2.1; omega) (by simp)).trans ((HJ.out.2.1.block _ (hL_ G.out.2.2.1) (by simp)).trans G.out.2.2.1);have r1 : W5.cell? ⟨pb, 1, none⟩ = some (.slice Ab p.bts.length cb) := (cOH hp5 1).trans rfl;have zr := hL_ hp5;clear hp5
              go_upto_block 6 with fail
              clear r1 zr
              go_cut [15] from 73 to 83 (fun n wx => n = .int .i64 (bertOf p ⟨da, dl, dy, dd⟩ : Nat) ∧ Keep [] W3 wx)
              case first =>
                go_wp2_with fail
                go_loopg [15, 72] (p.bts.length) (fun g n i wr => ∃ m : Nat, g + m = p.bts.length ∧ i = .int .i64 m ∧ n = .int .i64 (bertN p ⟨da, dl, dy, dd⟩ m : Nat) ∧ Keep [] W3 wr)
                case atStart => exact ⟨0, rfl, rfl, rfl, HX.out.2.1⟩
                case round =>
                  obtain ⟨m, hm, rfl, rfl, hKm⟩ := hrel;obtain ⟨cn, hcn⟩ : ∃ n, n = bertN p ⟨da, dl, dy, dd⟩ m := ⟨_, rfl⟩;have hcl : cn ≤ p.bts.length := by rw [hcn]; exact bertN_le
                  rw [← hcn];by_cases hlm : m < p.bts.length
                  · have bD := (HJ.out.2.1.trans hKm (by simp)).below' G.out.2.2.2.2 (by simp);obtain ⟨b', off', Ak, ck, eA', hbD', d0, d1, _⟩ := (G.out.1.below bD).bts m hlm;have hsu := bertN_succ (d := ⟨da, dl, dy, dd⟩) hlm;obtain ⟨dp, hdp⟩ : ∃ z, z = (p.bts[m]).depth := ⟨_, rfl⟩;obtain ⟨pl, hpl⟩ : ∃ z, z = (p.bts[m]).path.length := ⟨_, rfl⟩;rw [← hdp] at d0 hsu;rw [← hpl] at d1;rw [← hcn] at hsu;simp only at hsu;have zb := World.block_lt_of_cell? _ _ d0;simp only at zb;obtain ⟨W4, hW4⟩ : ∃ W4, W4 = wr.alloc (.cells #[.int .i64 dp, .slice Ak pl ck] 83) := ⟨_, rfl⟩;obtain ⟨vb, hvb⟩ : ∃ vb, vb = wr.heap.size := ⟨_, rfl⟩;have hvh : W4.heap[vb]? = some (.cells #[.int .i64 dp, .slice Ak pl ck] 83 (0, 0)) := by rw [hW4, hvb]; exact heap_alloc_new _ _
                    have k4 : Keep [] W3 W4 := by rw [hW4]; exact hKm.alloc _
                    have hd := (k4.block _ (hL_ HJ.out.2.2.2.1) (by simp)).trans HJ.out.2.2.2.1;have f3 : W4.cell? ⟨yb, 3, none⟩ = some (.int .i64 dd) := (cOH hd 3).trans rfl;have v0 : W4.cell? ⟨vb, 0, none⟩ = some (.int .i64 dp) := (cOH hvh 0).trans rfl;have y2 := hL_ hd;have y3 := hL_ hvh;have HM := Lib.hid (And.intro hsu (And.intro k4 eA'));clear hsu k4 hd hvh hKm bD hcn hdp hpl;rw [HM.out.2.2];by_cases x1 : dd ≤ dp
                    · go_upto_region 21 with fail
                      rw [← hW4, ← hvb];clear hW4 hvb d0 d1 zb;go_wp2_with fail
                      rw [← HM.out.2.2];go_roundg (gk - 1);case measure => omega
                      case rel => exact ⟨m + 1, by omega, by go_num, by rw [HM.out.1, if_pos (by omega)]; simp, HM.out.2.1⟩
                    · go_upto_region 21 with fail
                      rw [← hW4, ← hvb];clear hW4 hvb d0 d1 zb;go_wp2_with fail
                      rw [← HM.out.2.2];go_roundg (gk - 1);case measure => omega
                      case rel => exact ⟨m + 1, by omega, by go_num, by rw [HM.out.1, if_neg (by omega)]; simp, HM.out.2.1⟩
                  · obtain rfl : m = p.bts.length := by omega
                    rw [bertN_all] at hcn;have HK := Lib.hid (And.intro hcn hKm);clear hcn hKm;go_wp2_with fail
                    go_meet
                    exact ⟨by rw [HK.out.1], HK.out.2⟩
              case rest =>
                obtain ⟨rfl, hK3⟩ := hcut;obtain ⟨W6, rfl, hK3⟩ : ∃ W6, W6 = _ ∧ Keep [] W3 W6 := ⟨_, rfl, hK3⟩;obtain ⟨cq, hcq⟩ : ∃ n, n = bertOf p ⟨da, dl, dy, dd⟩ := ⟨_, rfl⟩;rw [← hcq];have ha := (hK3.block _ (hL_ HJ.out.2.2.2.2.1) (by simp)).trans HJ.out.2.2.2.2.1;have hd := (hK3.block _ (hL_ HJ.out.2.2.2.1) (by simp)).trans HJ.out.2.2.2.1;have a1 : W6.cell? ⟨xb, 1, none⟩ = some (.int .i64 al) := (cOH ha 1).trans rfl;have f3 : W6.cell? ⟨yb, 3, none⟩ = some (.int .i64 dd) := (cOH hd 3).trans rfl;have y1 := hL_ ha;have y2 := hL_ hd;obtain ⟨r, hr⟩ : ∃ r, r = crowd1 p l ⟨aa, al, ay, ad⟩ (t1, t2) ⟨da, dl, dy, dd⟩ := ⟨_, rfl⟩;have hr' : r = if cq < cm ∧ (t1 < 0 ∨ al < t1 ∨ (al = t1 ∧ t2 < dd)) then (al, dd) else (t1, t2) := by rw [hr, hcq, HX.out.1]; rfl
                have HY := Lib.hid (And.intro hr (And.intro hr' hK3));clear hr hr' hK3 ha hd hcq;go_upto_region 24 with fail
                obtain ⟨t, ht⟩ : ∃ t, t = decide (cq < cm ∧ (t1 < 0 ∨ al < t1 ∨ (al = t1 ∧ t2 < dd))) := ⟨_, rfl⟩;have HT := Lib.hid ht
                go_cut [108] from 84 to 108 (fun u wx => u = .bool t ∧ W6 = wx)
                case first =>
                  by_cases x0 : cq < cm
                  · by_cases x1 : t1 < 0
                    · go_wp2_with fail
                      go_meet
                      exact ⟨by rw [HT.out, decide_eq_true (by omega)], rfl⟩
                    · by_cases x2 : al < t1
                      · go_wp2_with fail
                        go_meet
                        exact ⟨by rw [HT.out, decide_eq_true (by omega)], rfl⟩
                      · by_cases x3 : al = t1
                        · by_cases x4 : t2 < dd
                          · have xb : (al == t1) = true := by simp [x3]
                            have X3 := Lib.hid x3;clear x3;go_wp2_with fail
                            go_meet
                            exact ⟨by rw [HT.out, decide_eq_true ⟨x0, .inr (.inr ⟨X3.out, x4⟩)⟩], rfl⟩
                          · have xb : (al == t1) = true := by simp [x3]
                            have X3 := Lib.hid x3;clear x3;go_wp2_with fail
                            go_meet
                            exact ⟨by rw [HT.out, decide_eq_false (by omega)], rfl⟩
                        · have xb : (al == t1) = false := by simpa using x3
                          go_wp2_with fail
                          go_meet
                          exact ⟨by rw [HT.out, decide_eq_false (by omega)], rfl⟩
                  · go_wp2_with fail
                    go_meet
                    exact ⟨by rw [HT.out, decide_eq_false (by omega)], rfl⟩
                case rest =>
                  obtain ⟨rfl, rfl⟩ := hcut;have hst := crowdM_succ (p := p) (a := ⟨aa, al, ay, ad⟩) (s := (s1, s2)) hlj;rw [← HJ.out.1, ← HJ.out.2.2.1, ← HY.out.1] at hst;have HZ := Lib.hid hst;clear hst ht;cases t
                  · have hr : r = (t1, t2) := by rw [HY.out.2.1, if_neg (of_decide_eq_false HT.out.symm)]
                    have HR := Lib.hid hr;clear hr a1 f3 y1 y2;go_wp2_with fail
                    go_roundg (gc - 1);case measure => omega
                    case rel => exact ⟨j + 1, by omega, by go_num, by rw [HZ.out, HR.out], by rw [HZ.out, HR.out], HJ.out.2.2.2.2.2.trans HY.out.2.2 (by simp)⟩
                  · have hr : r = (al, dd) := by rw [HY.out.2.1, if_pos (of_decide_eq_true HT.out.symm)]
                    have HR := Lib.hid hr;clear hr;go_wp2_with fail
                    go_quiet (fail);clear a1 f3 y1 y2;go_wp2_with fail
                    go_roundg (gc - 1);case measure => omega
                    case rel => exact ⟨j + 1, by omega, by go_num, by rw [HZ.out, HR.out], by rw [HZ.out, HR.out], (HJ.out.2.2.2.2.2.trans HY.out.2.2 (by simp)).drewN _⟩
          · obtain rfl : j = l.length := by omega
            rw [crowdM_all] at hsj;have hst := crowdN_succ (p := p) hlt;rw [← HI.out.1, ← HI.out.2.2.1, ← hsj] at hst;have HZ := Lib.hid (And.intro hst hKj);clear hst hsj hKj;go_wp2_with fail
            rw [← eA];go_roundg (gb - 1);case measure => omega
            case rel => exact ⟨k + 1, by omega, by go_num, by rw [HZ.out.1], by rw [HZ.out.1], HI.out.2.1.trans HZ.out.2 (by simp)⟩
      · obtain rfl : k = l.length := by omega
        rw [crowdN_all] at hsk;have bD := hK.below' (Nat.le_refl _) (by simp);have HZ := Lib.hid (And.intro hsk (G.out.2.2.2.1.trans (bD.mono G.out.2.2.2.1.size)));clear hsk hK bD;by_cases x1 : s1 < 0
        · go_wp2_with fail
          refine bodyPost_ret (results_tmp3P rfl _ _ _) rfl ?_;exact crowd_no (by unfold crowdE; rw [if_neg (fun h => h H.out.2.1.symm), ← HZ.out.1, if_pos x1]) (by decide) HZ.out.2
        · go_wp2_with fail
          refine bodyPost_ret (results_tmp3P rfl _ _ _) rfl ?_;have e0 : crowdE p l = 0 := by unfold crowdE; rw [if_neg (fun h => h H.out.2.1.symm), ← HZ.out.1, if_neg (by simp only; omega)]
          exact ⟨by unfold crowdH crowdD; rw [if_pos e0, if_pos e0, e0, ← HZ.out.1]; rfl, HZ.out.2⟩
  · have hnb : (er != 0) = true := by simp [h0]
    have HC := Lib.hid h0;clear h0;go_wp2_with (go_at_call 40; refine H.out.2.2.1.mono ?_; rintro e w1 ⟨rfl, b1⟩; have B1 := Lib.hid b1; clear b1)
    refine bodyPost_ret (results_tmp3P rfl _ _ _) rfl ?_;exact crowd_no (by unfold crowdE; rw [if_pos (by rw [← H.out.2.1]; exact HC.out), H.out.2.1]) HC.out (H.out.1.trans (B1.out.mono H.out.1.size))
end Go.Proofs.YtalcinepeofmcaaGreat
namespace Go.Proofs.YtalcinepeofmcaaGreat
open Go Go.RowKit Sp Pt
def LeastPost (w : World) (p : Prt) (l : List Vst) (e : Ending) (w' : World) : Prop :=
  ∃ (A : Option Addr) (c : Nat), e = .returned (.tuple #[.slice A (leastR p l).2.length c, .bool (leastR p l).1]) ∧ Rd w' 2 A (leastR p l).2.length (plcs (leastR p l).2) ∧ Below w.heap.size w w'
theorem rBest_of (D : Nat) (Ac : Option Addr) (cc : Nat) (Ab : Option Addr) (cb : Nat) (p : Prt) (Av : Option Addr) (cv : Nat) (l : List Vst) (w : World) (PB : PrtB D w Ac cc Ab cb p) (VB : RdB D w 4 Av l.length (vscs l)) (hD : D ≤ w.heap.size)
    (kL : askedE p l = 0 → ∀ wx, Below w.heap.size w wx → Calls Tryz.prog 43 #[.agg (prtV Ac cc Ab cb p), .slice Av l.length cv] wx (LeastPost wx p l))
    (hP : l.all vstOk = true → 0 ≤ (bestS p l).least → PlSm l (bestS p l).found) :
    Calls Tryz.prog 15 #[.agg (prtV Ac cc Ab cb p), .slice Av l.length cv] w (BestPost w p l) := by
  obtain ⟨W, hW⟩ : ∃ W, W = w.alloc (.cells (prtV Ac cc Ab cb p) 51) := ⟨_, rfl⟩;obtain ⟨pb, hpb⟩ : ∃ b, b = w.heap.size := ⟨_, rfl⟩;have hh : W.heap[pb]? = some (.cells (prtV Ac cc Ab cb p) 51 (0, 0)) := by rw [hW, hpb]; exact heap_alloc_new _ _
  have b0 : Below w.heap.size w W := by rw [hW]; exact (Below.refl _ _).alloc (Nat.le_refl _) _
  have hD1 : D ≤ W.heap.size := by have := b0.size; omega
  have c0 : W.cell? ⟨pb, 0, none⟩ = some (.slice Ac p.chs.length cc) := (cOH hh 0).trans rfl;have c1 : W.cell? ⟨pb, 1, none⟩ = some (.slice Ab p.bts.length cb) := (cOH hh 1).trans rfl;have c2 : W.cell? ⟨pb, 2, none⟩ = some (.int .i64 p.tugs) := (cOH hh 2).trans rfl;have zp := hL_ hh;obtain ⟨er, her⟩ : ∃ er, er = askedE p l := ⟨_, rfl⟩;have ka := rasked9_any D Ac cc Ab cb p Av cv l W (PB.below (b0.mono hD)) ((VB.below (b0.mono hD)).rd hD1) hD1;rw [← her] at ka;have H := Lib.hid (And.intro b0 (And.intro her (And.intro ka (And.intro (VB.rd hD) (And.intro hh (And.intro kL hP))))));clear hh b0 ka her PB VB kL hP
  go_enter Tryz.func15, Tryz.ntmps15
  go_upto_region 1 with fail
  rw [← hW, ← hpb];clear hW hpb;by_cases h0 : er = 0
  · subst h0;have hck : l.length ≤ 5 ∧ l.all vstOk = true ∧ checkP p = 0 := by
      have hok := H.out.2.1.symm;unfold askedE at hok;split at hok
      · rename_i h; exact absurd hok h
      · rename_i h
        split at hok
        · cases hok
        · split at hok
          · cases hok
          · rename_i h2 h3; exact ⟨by omega, by simpa using h3, by omega⟩
    have hnb := (checkP_ok hck.2.2).nb;have hle := leastR_eq (p := p) (l := l) (by omega) hck.2.1;have hl5 := hck.1;have HC := Lib.hid (And.intro hck.2.1 hle);clear hck hle hnb;go_upto_region 4 with (go_at_call 42; refine H.out.2.2.1.mono ?_; rintro e w1 ⟨rfl, b1⟩; have B1 := Lib.hid b1; clear b1)
    have hh1 := (B1.out.block _ (hL_ H.out.2.2.2.2.1)).trans H.out.2.2.2.2.1;have d0 := (cOH hh1 0).trans rfl;have d1 := (cOH hh1 1).trans rfl;have d2 := (cOH hh1 2).trans rfl;have zp1 := hL_ hh1;have G := Lib.hid (H.out.1.trans (B1.out.mono H.out.1.size));have kl := H.out.2.2.2.2.2.1 H.out.2.1.symm w1 G.out;unfold LeastPost at kl;rw [HC.out.2] at kl;clear c0 c1 c2 zp hh1;by_cases hf : 0 ≤ (bestS p l).least
    · simp only [hf, decide_true, if_true] at kl;obtain ⟨F, hF⟩ : ∃ F, F = (bestS p l).found := ⟨_, rfl⟩;rw [← hF] at kl;have hs := H.out.2.2.2.2.2.2 HC.out.1 hf;rw [← hF] at hs;have hlen := hs.1;rw [hlen] at kl;have kw : ∀ A c wx, Below w.heap.size w wx → Rd wx 2 A l.length (plcs F) → Calls Tryz.prog 44 #[.slice Av l.length cv, .slice A l.length c] wx fun e w' => e = .returned (.int .i64 (wt l F)) ∧ Below wx.heap.size wx w' := fun A c wx hb hr => by
        have := rwaits_any Av cv l A c F wx (H.out.2.2.2.1.below hb) (by rw [hlen]; exact hr) hl5 hs
        rwa [hlen] at this
      have he : bestE p l = 0 := by unfold bestE; rw [if_neg (by rw [← H.out.2.1]; simp), if_neg (by omega)]
      have hv : bestV p l = F := by unfold bestV; rw [if_pos he, hF]
      have hn : bestN p l = wt l F := by unfold bestN; rw [if_pos he, wt_found HC.out.1 hf, hF]
      have HB := Lib.hid (And.intro kl (And.intro kw (And.intro he (And.intro hv (And.intro hn hlen)))));clear kl kw he hv hn hlen hs hF hf;go_wp2_with (first | (go_at_call 43; refine HB.out.1.mono ?_; rintro e w2 ⟨A, c, rfl, r2, b2⟩; have B2 := Lib.hid (And.intro (G.out.trans (b2.mono G.out.size)) r2); clear r2 b2) | (go_at_call 44; refine (HB.out.2.1 _ _ _ B2.out.1 B2.out.2).mono ?_; rintro e w3 ⟨rfl, b3⟩; have B3 := Lib.hid b3; clear b3))
      refine bodyPost_ret (results_tmp3P rfl _ _ _) rfl ?_;obtain ⟨-, -, he, hv, hn, hlen⟩ := HB.out;refine ⟨A, c, by rw [hn, he, hv, hlen]; rfl, by rw [hv, hlen]; exact B2.out.2.below B3.out, by rw [hv, hlen]; exact hl5, B2.out.1.trans (B3.out.mono B2.out.1.size)⟩
    · simp only [hf, decide_false, if_false] at kl;have he : bestE p l = 4 := by unfold bestE; rw [if_neg (by rw [← H.out.2.1]; simp), if_pos (by omega)]
      have HB := Lib.hid (And.intro kl he);clear kl he hf;go_wp2_with (go_at_call 43; refine HB.out.1.mono ?_; rintro e w2 ⟨A, c, rfl, r2, b2⟩; have B2 := Lib.hid (G.out.trans (b2.mono G.out.size)); clear r2 b2)
      refine bodyPost_ret (results_tmp3P rfl _ _ _) rfl ?_;obtain ⟨A', k', e1, e2, e3, e4, _⟩ := best_no HB.out.2 (by decide) B2.out;exact ⟨A', k', e1, e2, e3, e4⟩
  · have hrb : (er != 0) = true := by simp [h0]
    have HC := Lib.hid h0;clear h0;go_wp2_with (go_at_call 42; refine H.out.2.2.1.mono ?_; rintro e w1 ⟨rfl, b1⟩; have B1 := Lib.hid b1; clear b1)
    refine bodyPost_ret (results_tmp3P rfl _ _ _) rfl ?_;obtain ⟨A', k', e1, e2, e3, e4, _⟩ := best_no (show bestE p l = er by unfold bestE; rw [if_pos (by rw [← H.out.2.1]; exact HC.out), H.out.2.1]) HC.out (H.out.1.trans (B1.out.mono H.out.1.size));exact ⟨A', k', e1, e2, e3, e4⟩
theorem way_plsm {p : Prt} {l : List Vst} {a : List Plc} (hl : l.all vstOk = true) (h : Pt.Way p l (pc a)) (hlen : a.length = l.length) : PlSm l a := by
  refine ⟨hlen, fun i hi => ?_⟩;have h1 := h.fit i hi;have hm : vs l i ∈ l := by
    have e : vs l i = l[i] := by unfold vs; rw [List.getD_eq_getElem?_getD, List.getElem?_eq_getElem hi]; rfl
    rw [e]; exact List.getElem_mem hi
  have h2 := List.all_eq_true.1 hl _ hm;simp only [vstOk, Bool.and_eq_true, Pt.within_iff] at h2;have h3 := h1.lo;have h4 := h1.hi;omega
theorem found_plsm {p : Prt} {l : List Vst} (hl : l.all vstOk = true) (h0 : 0 ≤ (bestS p l).least) : PlSm l (bestS p l).found := by
  obtain ⟨h1, h2⟩ := Leaf.way hl (found_leaf hl h0).1;exact way_plsm hl h1 h2
end Go.Proofs.YtalcinepeofmcaaGreat



namespace Go.Proofs.YtalcinepeofmcaaGreat
open Go Go.RowKit Sp
def stc (s : Stp) : List Value := [.int .i64 s.cls, .int .i64 s.ton, .int .i64 s.up, .int .i64 s.dn]
def stcs (l : List Stp) : List Value := l.flatMap stc
end Go.Proofs.YtalcinepeofmcaaGreat


namespace Go.Proofs.YtalcinepeofmcaaGreat
open Go Go.RowKit Sp
def PolV (w : World) (A : Option Addr) (c : Nat) (p : Pol) : Prop := p.steps.length ≤ c ∧ c ≤ maxLen ∧ Rd w 4 A p.steps.length (stcs p.steps)
end Go.Proofs.YtalcinepeofmcaaGreat









namespace Go.Proofs.YtalcinepeofmcaaGreat
open Go Go.RowKit Sp
theorem below_drewN {B : Nat} {w w' : World} (h : Below B w w') (n : Nat) : Below B w (w'.drewN n) := ⟨h.os, h.tape, h.output, h.size, h.block⟩
theorem PolV.below {w w' : World} {A : Option Addr} {c : Nat} {p : Pol} (h : PolV w A c p) (hb : Below w.heap.size w w') : PolV w' A c p := ⟨h.1, h.2.1, h.2.2.below hb⟩
end Go.Proofs.YtalcinepeofmcaaGreat



namespace Go.Proofs.YtalcinepeofmcaaGreat
open Go Go.RowKit Go.Lib Sp Pt
theorem own_new (w : World) (e : TypeId) (n : Nat) (xs : List Value) (hl : xs.length = n) (hn : n ≤ 1000000) : OwnS (w.alloc (.cells xs.toArray e)) e 1 (some ⟨w.heap.size, 0, none⟩) n n xs [w.heap.size] :=
  ⟨by omega, .inr ⟨w.heap.size, xs.toArray, rfl, rfl, heap_alloc_new w _, Nat.le_refl _, by omega, by simp [hl], fun j u hu => by rw [List.getElem?_toArray]; exact hu⟩⟩
theorem run_makeI (n : Nat) (hn : n ≤ 1000000) (w : World) :
    (Instr.makeSlice 36 (.int .i64 (n : Int)) (.int .i64 (n : Int))).run Tryz.prog w = .ok (.slice (some ⟨w.heap.size, 0, none⟩) n n) (w.alloc (.cells (noughts n) 3)) := by
  obtain ⟨i, hi, hz, hsize, hby⟩ := info_parts info_intP;exact run_make_ints 36 i Tryz.underlying36 hi hz hsize hby n hn w
end Go.Proofs.YtalcinepeofmcaaGreat
namespace Go.Proofs.YtalcinepeofmcaaGreat
open Go Go.RowKit Sp Pt
theorem eqIntsP_any (A : Option Addr) (c : Nat) (l : List Int) (B : Option Addr) (d : Nat) (m : List Int) (w : World) (hr : Rd w 1 A l.length (ints l)) (hr2 : Rd w 1 B m.length (ints m)) (hm : l.length ≤ 9223372036854775807) (hm2 : m.length ≤ 9223372036854775807) :
    Calls Tryz.prog 32 #[.slice A l.length c, .slice B m.length d] w fun e w' => e = .returned (.bool (decide (l = m))) ∧ Below w.heap.size w w' := by
  by_cases hlen : l.length = m.length
  · have hle : ((l.length : Int) != (m.length : Int)) = false := by simp; omega
    have hmm : m.length = l.length := hlen.symm;rw [hmm] at hr2 ⊢;have HL := Lib.hid hmm;clear hlen hmm
    go_enter Tryz.func32, Tryz.ntmps32
    go_wp2_with fail
    go_loopg [13] (l.length) (fun g i wr => ∃ k : Nat, g + k = l.length ∧ i = .int .i64 k ∧ l.take k = m.take k ∧ Keep [] w wr)
    case atStart => exact ⟨0, rfl, rfl, by simp, Keep.refl _ _⟩
    case round =>
      obtain ⟨k, hk, rfl, hb, hK⟩ := hrel;have HB := Lib.hid (And.intro hb hK);by_cases hlt : k < l.length
      · obtain ⟨b, off, rfl, hbb, hc⟩ := hr.2 (by omega);obtain ⟨b2, off2, rfl, hbb2, hc2⟩ := hr2.2 (by omega);obtain ⟨x, hx⟩ : ∃ x, x = l.getD k 0 := ⟨_, rfl⟩;obtain ⟨y, hy⟩ : ∃ y, y = m.getD k 0 := ⟨_, rfl⟩;have c0 : wr.cell? ⟨b, off + k, none⟩ = some (.int .i64 x) := hK.cell (by rw [hx]; exact hc k _ (iG_ hlt)) (by simp);have c1 : wr.cell? ⟨b2, off2 + k, none⟩ = some (.int .i64 y) := hK.cell (by rw [hy]; exact hc2 k _ (iG_ (by have := HL.out; omega))) (by simp);have hkI : (0 : Int) ≤ (k : Int) ∧ (k : Int) < (l.length : Int) := by omega
        have hx' : x = l[k] := by rw [hx]; simp [hlt]
        have hy' : y = m[k]'(by have := HL.out; omega) := by rw [hy]; simp [show k < m.length from by have := HL.out; omega]
        have HX := Lib.hid (And.intro hx' hy');clear hx hy hx' hy' hb hK hc hc2 hr hr2;by_cases hxy : x = y
        · subst hxy;have hne : (x != x) = false := by simp
          go_upto_region 6 with fail
          go_quiet (fail);go_wp2_with fail
          go_roundg (gk - 1);case measure => omega
          case rel =>
            refine ⟨k + 1, by omega, by go_num, ?_, HB.out.2.drewN _⟩;rw [List.take_succ_eq_append_getElem hlt, List.take_succ_eq_append_getElem (by have := HL.out; omega : k < m.length), HB.out.1, ← HX.out.1, ← HX.out.2]
        · have hne : (x != y) = true := by simp [hxy]
          go_upto_region 6 with fail
          go_quiet (fail);go_wp2_with fail
          go_ret;refine ⟨?_, below_drewN (HB.out.2.below (Nat.le_refl _) (by simp)) _⟩;have : decide (l = m) = false := decide_eq_false fun e => by
            apply hxy;rw [HX.out.1, HX.out.2];simp [e]
          rw [this]; rfl
      · obtain rfl : k = l.length := by omega
        clear hK hb;go_wp2_with fail
        go_ret;refine ⟨?_, HB.out.2.below (Nat.le_refl _) (by simp)⟩;have h1 := HB.out.1;rw [List.take_length, show l.length = m.length from HL.out.symm, List.take_length] at h1;rw [decide_eq_true h1]; rfl
  · have hle : ((l.length : Int) != (m.length : Int)) = true := by simp; omega
    have HL := Lib.hid hlen;clear hlen
    go_enter Tryz.func32, Tryz.ntmps32
    go_wp2_with fail
    go_ret;refine ⟨?_, Below.refl _ _⟩;rw [decide_eq_false (fun e => HL.out (by rw [e]))]; rfl
theorem plc_neq (x y : Plc) (w : World) : (binOp .neq 47 (.agg #[.int .i64 x.berth, .int .i64 x.start]) (.agg #[.int .i64 y.berth, .int .i64 y.start])).run Tryz.prog w = .ok (.bool (!decide (x = y))) w := by
  have u3 := Tryz.underlying3;have a3 := Tryz.isAgg3;have z3 := Tryz.sizeOf3;have hS : Tryz.prog.underlying 47 = some (.struct (Tryz.prog.fieldsOf 47)) := by kernel_rfl
  have hp : Tryz.prog.stoodInHeld 47 = false := by kernel_rfl
  rw [run_neq_struct, show (10000 : Nat) = 9999 + 1 from rfl, run_equalIn_agg w 9999 47 _ _ hS hp];simp only [Program.fieldsOf, Tryz.underlying47];go_simp;obtain ⟨a, b⟩ := x;obtain ⟨a', b'⟩ := y;by_cases h1 : a = a' <;> by_cases h2 : b = b' <;> simp [h1, h2]
theorem eqPlcs_any (A : Option Addr) (c : Nat) (l : List Plc) (B : Option Addr) (d : Nat) (m : List Plc) (w : World) (hr : Rd w 2 A l.length (plcs l)) (hr2 : Rd w 2 B m.length (plcs m)) (hm : l.length ≤ 9223372036854775807) (hm2 : m.length ≤ 9223372036854775807) :
    Calls Tryz.prog 24 #[.slice A l.length c, .slice B m.length d] w fun e w' => e = .returned (.bool (decide (l = m))) ∧ Below w.heap.size w w' := by
  by_cases hlen : l.length = m.length
  · have hle : ((l.length : Int) != (m.length : Int)) = false := by simp; omega
    have hmm : m.length = l.length := hlen.symm;rw [hmm] at hr2 ⊢;have HL := Lib.hid hmm;clear hlen hmm
    go_enter Tryz.func24, Tryz.ntmps24
    go_wp2_with fail
    go_loopg [13] (l.length) (fun g i wr => ∃ k : Nat, g + k = l.length ∧ i = .int .i64 k ∧ l.take k = m.take k ∧ Keep [] w wr)
    case atStart => exact ⟨0, rfl, rfl, by simp, Keep.refl _ _⟩
    case round =>
      obtain ⟨k, hk, rfl, hb, hK⟩ := hrel;have HB := Lib.hid (And.intro hb hK);by_cases hlt : k < l.length
      · obtain ⟨b, off, rfl, hbb, hc⟩ := hr.2 (by omega);obtain ⟨b2, off2, rfl, hbb2, hc2⟩ := hr2.2 (by omega);have hlm : k < m.length := by have := HL.out; omega
        obtain ⟨x, hx'⟩ : ∃ x, x = l[k] := ⟨_, rfl⟩;obtain ⟨y, hy'⟩ : ∃ y, y = m[k] := ⟨_, rfl⟩;obtain ⟨s0, s1⟩ := plcs_get hlt;obtain ⟨t0, t1⟩ := plcs_get hlm;rw [← hx'] at s0 s1;rw [← hy'] at t0 t1;have bk : ∀ o u, w.cell? ⟨b, o, none⟩ = some u → wr.cell? ⟨b, o, none⟩ = some u := fun o u h => hK.cell h (by simp);have bk2 : ∀ o u, w.cell? ⟨b2, o, none⟩ = some u → wr.cell? ⟨b2, o, none⟩ = some u := fun o u h => hK.cell h (by simp);have c0 := bk (off + k*2) _ (hc _ _ s0);have c1 := bk (off + k*2 + 1) _ (hc _ _ s1);have d0 := bk2 (off2 + k*2) _ (hc2 _ _ t0);have d1 := bk2 (off2 + k*2 + 1) _ (hc2 _ _ t1);clear bk bk2 s0 t0 s1 t1;have hkI : (0 : Int) ≤ (k : Int) ∧ (k : Int) < (l.length : Int) := by omega
        have HX := Lib.hid (And.intro hx' hy');clear hx' hy' hb hK hc hc2 hr hr2;by_cases hxy : x = y
        · subst hxy;have hne : ∀ w, (binOp .neq 47 (.agg #[.int .i64 x.berth, .int .i64 x.start]) (.agg #[.int .i64 x.berth, .int .i64 x.start])).run Tryz.prog w = .ok (.bool false) w := fun w => by rw [plc_neq]; simp
          go_upto_region 6 with fail
          go_quiet (fail);go_wp2_with fail
          go_roundg (gk - 1);case measure => omega
          case rel =>
            refine ⟨k + 1, by omega, by go_num, ?_, HB.out.2.drewN _⟩;rw [List.take_succ_eq_append_getElem hlt, List.take_succ_eq_append_getElem (by have := HL.out; omega : k < m.length), HB.out.1, ← HX.out.1, ← HX.out.2]
        · have hne : ∀ w, (binOp .neq 47 (.agg #[.int .i64 x.berth, .int .i64 x.start]) (.agg #[.int .i64 y.berth, .int .i64 y.start])).run Tryz.prog w = .ok (.bool true) w := fun w => by rw [plc_neq]; simp [hxy]
          go_upto_region 6 with fail
          go_quiet (fail);go_wp2_with fail
          go_ret;refine ⟨?_, below_drewN (HB.out.2.below (Nat.le_refl _) (by simp)) _⟩;have : decide (l = m) = false := decide_eq_false fun e => by
            apply hxy;rw [HX.out.1, HX.out.2];simp [e]
          rw [this]; rfl
      · obtain rfl : k = l.length := by omega
        clear hK hb;go_wp2_with fail
        go_ret;refine ⟨?_, HB.out.2.below (Nat.le_refl _) (by simp)⟩;have h1 := HB.out.1;rw [List.take_length, show l.length = m.length from HL.out.symm, List.take_length] at h1;rw [decide_eq_true h1]; rfl
  · have hle : ((l.length : Int) != (m.length : Int)) = true := by simp; omega
    have HL := Lib.hid hlen;clear hlen
    go_enter Tryz.func24, Tryz.ntmps24
    go_wp2_with fail
    go_ret;refine ⟨?_, Below.refl _ _⟩;rw [decide_eq_false (fun e => HL.out (by rw [e]))]; rfl
theorem eqIntsP_same (A B : Option Addr) (c d n : Nat) (l : List Int) (w : World) (hn : n = l.length) (hm : n ≤ 1000) (h1 : Rd w 1 A n (ints l)) (h2 : Rd w 1 B n (ints l)) :
    Calls Tryz.prog 32 #[.slice A n c, .slice B n d] w fun e w' => e = .returned (.bool true) ∧ Below w.heap.size w w' := by
  subst hn;have := eqIntsP_any A c l B d l w h1 h2 (by omega) (by omega)
  rwa [decide_eq_true rfl] at this
theorem eqPlcs_same (A B : Option Addr) (c d n : Nat) (l : List Plc) (w : World) (hn : n = l.length) (hm : n ≤ 1000) (h1 : Rd w 2 A n (plcs l)) (h2 : Rd w 2 B n (plcs l)) :
    Calls Tryz.prog 24 #[.slice A n c, .slice B n d] w fun e w' => e = .returned (.bool true) ∧ Below w.heap.size w w' := by
  subst hn;have := eqPlcs_any A c l B d l w h1 h2 (by omega) (by omega)
  rwa [decide_eq_true rfl] at this
end Go.Proofs.YtalcinepeofmcaaGreat
