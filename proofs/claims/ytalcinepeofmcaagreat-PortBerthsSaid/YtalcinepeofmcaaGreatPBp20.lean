import Derived.Test.YtalcinepeofmcaaGreatPBp19
import Derived.Test.YtalcinepeofmcaaGreatPBp11
import Derived.Test.YtalcinepeofmcaaGreatPBp6
set_option linter.unusedVariables false
set_option linter.unusedSimpArgs false
set_option maxRecDepth 100000
set_option maxHeartbeats 40000000
namespace Go.Proofs.YtalcinepeofmcaaGreat.Pt
open Sp
section
variable {p : Prt} {l : List Vst} {a : List Plc} {k : Nat}
theorem verF_stop (h : verF p l a k = 0) (hx : verX p l a k ≠ 0) : ∀ m, verF p l a (k + 1 + m) = verX p l a k
  | 0 => by show (if verF p l a k ≠ 0 then verF p l a k else verX p l a k) = _; rw [if_neg (by rw [h]; simp)]
  | m + 1 => by
    show (if verF p l a (k + 1 + m) ≠ 0 then verF p l a (k + 1 + m) else _) = _;rw [verF_stop h hx m, if_pos hx]
theorem verF_bad (h : verF p l a k = 0) (hx : verX p l a k ≠ 0) {n : Nat} (hk : k < n) : verF p l a n = verX p l a k := by
  have := verF_stop h hx (n - k - 1)
  rwa [show k + 1 + (n - k - 1) = n from by omega] at this
theorem verE_bad (ha : askedE p l = 0) (hl : a.length = l.length) (h : verF p l a k = 0) {x : Int} (hx : verX p l a k = x) (h0 : x ≠ 0) (hk : k < l.length) : verE p l a = x ∧ verN p l a = 0 := by
  have e : verF p l a l.length = x := by rw [verF_bad h (by rw [hx]; exact h0) hk, hx]
  have e1 : verE p l a = x := by unfold verE; rw [if_neg (by rw [ha]; simp), if_neg (by rw [hl]; simp), if_pos (by rw [e]; exact h0), e]
  exact ⟨e1, by unfold verN; rw [if_neg (by rw [e1]; exact h0)]⟩
theorem pc_at (hk : k < a.length) : pc a k = a[k] := by simp [pc, hk]
theorem vs_at (hk : k < l.length) : vs l k = l[k] := by simp [vs, hk]
end
end Go.Proofs.YtalcinepeofmcaaGreat.Pt
namespace Go.Proofs.YtalcinepeofmcaaGreat
open Go Go.RowKit Sp Pt
def VerPost (w : World) (p : Prt) (l : List Vst) (a : List Plc) (e : Ending) (w' : World) : Prop :=
  e = .returned (.tuple #[.int .i64 (verN p l a), .int .i64 (verE p l a)]) ∧ Below w.heap.size w w'
theorem ver_no {w w' : World} {p : Prt} {l : List Vst} {a : List Plc} {er : Int} (he : verE p l a = er) (h0 : er ≠ 0) (b : Below w.heap.size w w') : VerPost w p l a (.returned (.tuple #[.int .i64 0, .int .i64 er])) w' := by
  have e1 : verN p l a = 0 := by unfold verN; rw [if_neg (by rw [he]; exact h0)]
  exact ⟨by rw [e1, he], b⟩
theorem plc_at {D : Nat} {w : World} {A : Option Addr} {a : List Plc} (h : RdB D w 2 A a.length (plcs a)) {k : Nat} (hk : k < a.length) : ∃ b off, A = some ⟨b, off, none⟩ ∧ b < D ∧ w.cell? ⟨b, off + k * 2, none⟩ = some (.int .i64 a[k].berth) ∧
    w.cell? ⟨b, off + k * 2 + 1, none⟩ = some (.int .i64 a[k].start) := by
  obtain ⟨b, off, e, hb, hc⟩ := h.2 (by omega);obtain ⟨g0, g1⟩ := plcs_get hk;exact ⟨b, off, e, hb, hc _ _ g0, hc _ _ g1⟩
theorem Verify_any (D : Nat) (Ac : Option Addr) (cc : Nat) (Ab : Option Addr) (cb : Nat) (p : Prt) (Av : Option Addr) (cv : Nat) (l : List Vst) (Aa : Option Addr) (ca : Nat) (a : List Plc) (w : World) (PB : PrtB D w Ac cc Ab cb p) (VB : RdB D w 4 Av l.length (vscs l)) (AB : RdB D w 2 Aa a.length (plcs a)) (hca : a.length ≤ ca ∧ ca ≤ 9223372036854775807) (hD : D ≤ w.heap.size) :
    Calls Tryz.prog 18 #[.agg (prtV Ac cc Ab cb p), .slice Av l.length cv, .slice Aa a.length ca] w (VerPost w p l a) := by
  obtain ⟨W, hW⟩ : ∃ W, W = w.alloc (.cells (prtV Ac cc Ab cb p) 25) := ⟨_, rfl⟩;obtain ⟨pb, hpb⟩ : ∃ b, b = w.heap.size := ⟨_, rfl⟩;have hh : W.heap[pb]? = some (.cells (prtV Ac cc Ab cb p) 25 (0, 0)) := by rw [hW, hpb]; exact heap_alloc_new _ _
  have b0 : Below w.heap.size w W := by rw [hW]; exact (Below.refl _ _).alloc (Nat.le_refl _) _
  have hD1 : D ≤ W.heap.size := by have := b0.size; omega
  have c0 : W.cell? ⟨pb, 0, none⟩ = some (.slice Ac p.chs.length cc) := (cOH hh 0).trans rfl;have c1 : W.cell? ⟨pb, 1, none⟩ = some (.slice Ab p.bts.length cb) := (cOH hh 1).trans rfl;have c2 : W.cell? ⟨pb, 2, none⟩ = some (.int .i64 p.tugs) := (cOH hh 2).trans rfl;have zp := hL_ hh;obtain ⟨er, her⟩ : ∃ er, er = askedE p l := ⟨_, rfl⟩;have PB1 := PB.below (b0.mono hD);have VB1 := VB.below (b0.mono hD);have AB1 := AB.below (b0.mono hD);have ka := asked_any D Ac cc Ab cb p Av cv l W PB1 (VB1.rd hD1) hD1;rw [← her] at ka;have H := Lib.hid (And.intro b0 (And.intro her (And.intro ka (And.intro PB1 (And.intro VB1 (And.intro hh AB1))))));clear hh b0 ka her PB VB PB1 VB1 AB AB1
  go_enter Tryz.func18, Tryz.ntmps18
  go_upto_region 1 with fail
  rw [← hW, ← hpb];clear hW hpb;by_cases h0 : er = 0
  · subst h0;by_cases hal : a.length = l.length
    · have hck : checkP p = 0 ∧ l.length ≤ 5 ∧ l.all vstOk = true := by
        have hok := H.out.2.1.symm;unfold askedE at hok;split at hok
        · rename_i h; exact absurd hok h
        · rename_i h
          split at hok
          · cases hok
          · split at hok
            · cases hok
            · rename_i h2 h3; exact ⟨by omega, by omega, by simpa using h3⟩
      have hnl := hck.2.1;have hnb := (checkP_ok hck.1).nb;have hvok : ∀ v ∈ l, 0 ≤ v.arr ∧ v.arr ≤ 1000 ∧ v.arr ≤ v.last ∧ v.last ≤ 2000 ∧ 1 ≤ v.stay ∧ v.stay ≤ 100 ∧ 10 ≤ v.dra ∧ v.dra ≤ 3000 := fun v hv => by
        have := List.all_eq_true.1 hck.2.2 v hv;simp only [vstOk, Bool.and_eq_true, Pt.within_iff] at this;omega
      have HV := Lib.hid (And.intro hvok hal);have hne : ((l.length : Int) != (l.length : Int)) = false := by simp
      have AB2 := H.out.2.2.2.2.2.2;rw [hal] at AB2;have HAB := Lib.hid AB2;have hca' : l.length ≤ ca := by omega
      rw [hal];clear hck hvok hal AB2;go_upto_region 4 with (go_at_call 40; refine H.out.2.2.1.mono ?_; rintro e w1 ⟨rfl, b1⟩; have B1 := Lib.hid b1; clear b1)
      have hh1 := (B1.out.block _ (hL_ H.out.2.2.2.2.2.1)).trans H.out.2.2.2.2.2.1;have hDw : D ≤ w1.heap.size := by have := B1.out.size; omega
      have G := Lib.hid (And.intro (H.out.2.2.2.1.below (B1.out.mono hD1)) (And.intro (H.out.2.2.2.2.1.below (B1.out.mono hD1)) (And.intro hh1 (And.intro (H.out.1.trans (B1.out.mono H.out.1.size)) (And.intro hDw (HAB.out.below (B1.out.mono hD1)))))));clear c0 c1 c2 zp hh1 hDw;go_wp2_with fail
      go_loopg [9, 30] (l.length) (fun g n i wr => ∃ (k : Nat) (nn : Int), g + k = l.length ∧ i = .int .i64 k ∧ n = .int .i64 nn ∧ nn = wsum (waitOf l a) k ∧ 0 ≤ nn ∧ nn ≤ 2000 * k ∧ verF p l a k = 0 ∧ Keep [] w1 wr)
      case atStart => exact ⟨0, 0, rfl, rfl, rfl, rfl, by omega, by omega, rfl, Keep.refl _ _⟩
      case round =>
        obtain ⟨k, nn, hk, rfl, rfl, hnn, hn0, hn1, hvf, hK⟩ := hrel;by_cases hlt : k < l.length
        · obtain ⟨gb, rfl⟩ : ∃ gb, gb = gk := ⟨_, rfl⟩;have hka : k < a.length := by have := HV.out.2; omega
          have bD := hK.below' G.out.2.2.2.2.1 (by simp);obtain ⟨b, off, eA, hbD, d0, d1, d2, d3⟩ := vst_at (G.out.2.1.below bD) hlt;have AB3 := G.out.2.2.2.2.2.below bD;rw [← HV.out.2] at AB3;obtain ⟨ob, oo, eO, hoD, o0, o1⟩ := plc_at AB3 hka;obtain ⟨x, hx⟩ : ∃ x, x = a[k] := ⟨_, rfl⟩;obtain ⟨v, hv⟩ : ∃ v, v = l[k] := ⟨_, rfl⟩;have hvo := HV.out.1 l[k] (List.getElem_mem _);rw [← hv] at d0 d1 d2 d3 hvo;rw [← hx] at o0 o1;have zb := World.block_lt_of_cell? _ _ d0;have zo := World.block_lt_of_cell? _ _ o0;obtain ⟨xb, xs⟩ := x;obtain ⟨va, vl, vy, vd⟩ := v;simp only at d0 d1 d2 d3 hvo o0 o1 zb zo;obtain ⟨W2, hW2⟩ : ∃ W2, W2 = (wr.alloc (.cells #[.int .i64 xb, .int .i64 xs] 47)).alloc (.cells #[.int .i64 va, .int .i64 vl, .int .i64 vy, .int .i64 vd] 44) := ⟨_, rfl⟩;obtain ⟨ub, hub⟩ : ∃ xb, xb = wr.heap.size := ⟨_, rfl⟩;obtain ⟨vb, hvb⟩ : ∃ xb, xb = wr.heap.size + 1 := ⟨_, rfl⟩;have huh : W2.heap[ub]? = some (.cells #[.int .i64 xb, .int .i64 xs] 47 (0, 0)) := by rw [hW2, hub]; exact hA_ (heap_alloc_new _ _) _
          have hvh : W2.heap[vb]? = some (.cells #[.int .i64 va, .int .i64 vl, .int .i64 vy, .int .i64 vd] 44 (0, 0)) := by
            rw [hW2, hvb];have := heap_alloc_new (wr.alloc (.cells #[.int .i64 xb, .int .i64 xs] 47)) (.cells #[.int .i64 va, .int .i64 vl, .int .i64 vy, .int .i64 vd] 44)
            rwa [World.size_alloc] at this
          have k2 : Keep [] w1 W2 := by rw [hW2]; exact (hK.alloc _).alloc _
          have hp2 := (k2.block _ (hL_ G.out.2.2.1) (by simp)).trans G.out.2.2.1;have u0 : W2.cell? ⟨ub, 0, none⟩ = some (.int .i64 xb) := (cOH huh 0).trans rfl;have u1 : W2.cell? ⟨ub, 1, none⟩ = some (.int .i64 xs) := (cOH huh 1).trans rfl;have v0 : W2.cell? ⟨vb, 0, none⟩ = some (.int .i64 va) := (cOH hvh 0).trans rfl;have v1 : W2.cell? ⟨vb, 1, none⟩ = some (.int .i64 vl) := (cOH hvh 1).trans rfl;have v2 : W2.cell? ⟨vb, 2, none⟩ = some (.int .i64 vy) := (cOH hvh 2).trans rfl;have v3 : W2.cell? ⟨vb, 3, none⟩ = some (.int .i64 vd) := (cOH hvh 3).trans rfl;have r1 : W2.cell? ⟨pb, 1, none⟩ = some (.slice Ab p.bts.length cb) := (cOH hp2 1).trans rfl;have zu := hL_ huh;have zv := hL_ hvh;have zp := hL_ hp2;have hpk : pc a k = ⟨xb, xs⟩ := by rw [pc_at hka, ← hx]
          have hvk : vs l k = ⟨va, vl, vy, vd⟩ := by rw [vs_at hlt, ← hv]
          have hwt : waitOf l a k = xs - va := by unfold waitOf; rw [hpk, hvk]
          have bw2 : Below w.heap.size w W2 := G.out.2.2.2.1.trans ((k2.below' (Nat.le_refl _) (by simp)).mono G.out.2.2.2.1.size);have HI := Lib.hid (And.intro hvf (And.intro k2 (And.intro hpk (And.intro hvk (And.intro hwt (And.intro hnn (And.intro bw2 (And.intro huh hvh))))))));clear hvf hK bD AB3 k2 hp2 hpk hvk hwt hnn bw2 huh hvh hx hv;rw [eA, eO];go_upto_region 11 with fail
          rw [← hW2, ← hvb, ← hub];clear hW2 hvb hub d0 d1 d2 d3 zb o0 o1 zo;have hbad : ∀ x, verX p l a k = x → x ≠ 0 → verE p l a = x := fun x h1 h2 => (verE_bad H.out.2.1.symm HV.out.2 HI.out.1 h1 h2 hlt).1;have hX : verX p l a k = if within xb 0 ((p.bts.length : Int) - 1) = false then 6 else if (bt p xb).depth < vd then 100 else if within xs va vl = false then 12 else if (List.range k).any (clash l a k) = true then 9 else 0 := by
            unfold verX; rw [HI.out.2.2.1, HI.out.2.2.2.1]
          have HB := Lib.hid (And.intro hbad hX);clear hbad hX;cases hw1 : within xb 0 ((p.bts.length : Int) - 1)
          · go_wp2_with (go_at_call 45; refine (pWa _ _ _ _).mono ?_; rintro e w' ⟨rfl, rfl⟩)
            go_ret2
            exact ver_no (HB.out.1 6 (by rw [HB.out.2, if_pos hw1]) (by decide)) (by decide) HI.out.2.2.2.2.2.2.1
          · obtain ⟨q, hq⟩ : ∃ q : Nat, xb = q := ⟨xb.toNat, by simp [within] at hw1; omega⟩;subst hq;have hqb : q < p.bts.length := by simp [within] at hw1; omega
            obtain ⟨b', off', Ak, ck, eB, hbD', e0, _, _⟩ := (G.out.1.below (HI.out.2.1.below' G.out.2.2.2.2.1 (by simp))).bts q hqb;obtain ⟨dp, hdp⟩ : ∃ z, z = (p.bts[q]).depth := ⟨_, rfl⟩;rw [← hdp] at e0;have hdq : (bt p (q : Int)).depth = dp := by rw [hdp]; simp [bt, hqb]
            have zq := World.block_lt_of_cell? _ _ e0;simp only at zq;have hqI : (0 : Int) ≤ (q : Int) ∧ (q : Int) < (p.bts.length : Int) := by omega
            have HQ := Lib.hid (And.intro hdq (And.intro eB hw1));rw [eB] at r1;clear hdq hdp eB;by_cases hdd : dp < vd
            · go_upto_region 13 with (go_at_call 45; refine (pWa _ _ _ _).mono ?_; rintro e w' ⟨rfl, rfl⟩)
              clear hw1;go_quiet (fail);go_wp2_with fail
              go_ret2
              exact ver_no (HB.out.1 100 (by rw [HB.out.2, if_neg (by rw [HQ.out.2.2]; simp), if_pos (by rw [HQ.out.1]; exact hdd)]) (by decide)) (by decide) (((Keep.refl [] _).drewN _).below (Nat.le_refl _) (by simp) |>.mono HI.out.2.2.2.2.2.2.1.size |> HI.out.2.2.2.2.2.2.1.trans)
            · have hdf : decide (dp < vd) = false := decide_eq_false hdd;have HDD := Lib.hid hdd;clear hdd;cases hw2 : within xs va vl
              · go_upto_region 13 with (go_at_call 45; refine (pWa _ _ _ _).mono ?_; rintro e w' ⟨rfl, rfl⟩)
                clear hw1;go_quiet (fail);go_wp2_with (go_at_call 45; refine (pWa _ _ _ _).mono ?_; rintro e w' ⟨rfl, rfl⟩)
                go_ret2
                exact ver_no (HB.out.1 12 (by rw [HB.out.2, if_neg (by rw [HQ.out.2.2]; simp), if_neg (by rw [HQ.out.1]; have := HDD.out; omega), if_pos hw2]) (by decide)) (by decide) (((Keep.refl [] _).drewN _).below (Nat.le_refl _) (by simp) |>.mono HI.out.2.2.2.2.2.2.1.size |> HI.out.2.2.2.2.2.2.1.trans)
              · have hxs : va ≤ xs ∧ xs ≤ vl := by simpa [within] using hw2
                have HW2 := Lib.hid hw2;go_upto_region 13 with (go_at_call 45; refine (pWa _ _ _ _).mono ?_; rintro e w' ⟨rfl, rfl⟩)
                clear hw1;go_quiet (fail);go_upto_region 17 with (go_at_call 45; refine (pWa _ _ _ _).mono ?_; rintro e w' ⟨rfl, rfl⟩)
                obtain ⟨W3, hW3, k3⟩ : ∃ W3, W3 = _ ∧ Keep [] W2 W3 := ⟨_, rfl, (Keep.refl _ _).drewN _⟩;rw [← hW3];clear hW3 hw2 e0 r1 zp u0 u1 v0 v1 v2 v3 zu zv zq;have HK3 := Lib.hid k3;clear k3;have hkc : (k : Int) ≤ (ca : Int) := by omega
                go_wp2_with fail
                go_loopg [72] k (fun g i wr => ∃ j : Nat, g + j = k ∧ i = .int .i64 j ∧ (List.range j).any (clash l a k) = false ∧ Keep [] W3 wr)
                case atStart => exact ⟨0, rfl, rfl, rfl, Keep.refl _ _⟩
                case round =>
                  obtain ⟨j, hj, rfl, hcl, hKj⟩ := hrel;by_cases hlj : j < k
                  · have hja : j < a.length := by omega
                    have hjl : j < l.length := by omega
                    have k02 := (HK3.out.trans hKj (by simp));have bD := (HI.out.2.1.trans k02 (by simp)).below' G.out.2.2.2.2.1 (by simp);have AB3 := G.out.2.2.2.2.2.below bD;rw [← HV.out.2] at AB3;obtain ⟨ob', oo', eO', hoD', o0, o1⟩ := plc_at AB3 hja;obtain ⟨b2, off2, eA2, hbD2, _, _, d2, _⟩ := vst_at (G.out.2.1.below bD) hjl;rw [eO] at eO';injection eO' with eO'
                    injection eO' with e1 e2 _
                    subst e1 e2;rw [eA] at eA2;injection eA2 with eA2
                    injection eA2 with e1 e2 _
                    subst e1 e2;obtain ⟨yb, hyb⟩ : ∃ x, x = (a[j]).berth := ⟨_, rfl⟩;obtain ⟨ys, hys⟩ : ∃ x, x = (a[j]).start := ⟨_, rfl⟩;obtain ⟨ly, hly⟩ : ∃ x, x = (l[j]).stay := ⟨_, rfl⟩;have hpj : pc a j = ⟨yb, ys⟩ := by rw [pc_at hja, hyb, hys]
                    have hvj : (vs l j).stay = ly := by rw [vs_at hjl, hly]
                    have hFj := (verX_zero.1 (verF_zero k |>.1 HI.out.1 j hlj)).1;have hf1 := hFj.lo;have hf2 := hFj.hi;rw [hpj, vs_at hjl] at hf1 hf2;simp only at hf1 hf2;have hvo2 := HV.out.1 l[j] (List.getElem_mem _);rw [← hly] at hvo2 d2;rw [← hyb] at o0;rw [← hys] at o1;have hys0 : 0 ≤ ys ∧ ys ≤ 2000 ∧ 1 ≤ ly ∧ ly ≤ 100 := by omega
                    clear hf1 hf2 hvo2 hFj;have zo := World.block_lt_of_cell? _ _ o0;have zl := World.block_lt_of_cell? _ _ d2;simp only at zo zl;obtain ⟨W4, hW4⟩ : ∃ W4, W4 = wr.alloc (.cells #[.int .i64 yb, .int .i64 ys] 47) := ⟨_, rfl⟩;obtain ⟨yk, hyk⟩ : ∃ xb, xb = wr.heap.size := ⟨_, rfl⟩;have hyh : W4.heap[yk]? = some (.cells #[.int .i64 yb, .int .i64 ys] 47 (0, 0)) := by rw [hW4, hyk]; exact heap_alloc_new _ _
                    have k34 : Keep [] W3 W4 := by rw [hW4]; exact hKj.alloc _
                    have k24 := HK3.out.trans k34 (by simp);have hk44 : Keep [] wr W4 := by rw [hW4]; exact (Keep.refl _ _).alloc _
                    have d2' := hk44.cell d2 (by simp);have huh4 := (k24.block _ (hL_ HI.out.2.2.2.2.2.2.2.1) (by simp)).trans HI.out.2.2.2.2.2.2.2.1;have hvh4 := (k24.block _ (hL_ HI.out.2.2.2.2.2.2.2.2) (by simp)).trans HI.out.2.2.2.2.2.2.2.2;have u0 : W4.cell? ⟨ub, 0, none⟩ = some (.int .i64 q) := (cOH huh4 0).trans rfl;have u1 : W4.cell? ⟨ub, 1, none⟩ = some (.int .i64 xs) := (cOH huh4 1).trans rfl;have v2 : W4.cell? ⟨vb, 2, none⟩ = some (.int .i64 vy) := (cOH hvh4 2).trans rfl;have w0 : W4.cell? ⟨yk, 0, none⟩ = some (.int .i64 yb) := (cOH hyh 0).trans rfl;have w1' : W4.cell? ⟨yk, 1, none⟩ = some (.int .i64 ys) := (cOH hyh 1).trans rfl;have zu := hL_ huh4;have zv := hL_ hvh4;have zy := hL_ hyh;have zl4 := Nat.lt_of_lt_of_le zl hk44.size;have hcj : clash l a k j = (decide (yb = (q : Int)) && (decide (ys < xs + vy) && decide (xs < ys + ly))) := by unfold clash; rw [hpj, HI.out.2.2.1, HI.out.2.2.2.1, hvj]
                    have hr1 : (List.range (j + 1)).any (clash l a k) = ((List.range j).any (clash l a k) || clash l a k j) := by rw [List.range_succ, List.any_append]; simp
                    rw [hcl, hcj, Bool.false_or] at hr1;have HJ := Lib.hid (And.intro hr1 (And.intro hcj (And.intro k34 (G.out.2.2.2.1.trans (((HI.out.2.1.trans k24 (by simp)).below' (Nat.le_refl _) (by simp)).mono G.out.2.2.2.1.size)))));have hjI : (0 : Int) ≤ (j : Int) ∧ (j : Int) < (k : Int) ∧ (j : Int) < (l.length : Int) := by omega
                    clear hr1 hcj k34 k24 k02 bD AB3 hcl hKj huh4 hvh4 hyh hk44 hpj hvj hyb hys hly;by_cases e1 : yb = (q : Int)
                    · have e1b : (yb == (q : Int)) = true := by simp [e1]
                      have E1 := Lib.hid e1;clear e1;by_cases e2 : ys < xs + vy
                      · have e2b : decide (ys < xs + vy) = true := decide_eq_true e2;by_cases e3 : xs < ys + ly
                        · have e3b : decide (xs < ys + ly) = true := decide_eq_true e3;have EE := Lib.hid (And.intro e2b e3b);go_upto_region 20 with fail
                          rw [← hW4, ← hyk];clear hW4 hyk o0 o1 d2 zo zl;go_quiet (fail);go_wp2_with fail
                          go_ret2
                          exact ver_no (HB.out.1 9 (by
                            rw [HB.out.2, if_neg (by rw [HQ.out.2.2]; simp), if_neg (by rw [HQ.out.1]; have := HDD.out; omega), if_neg (by rw [HW2.out]; simp), if_pos];rw [List.any_eq_true];exact ⟨j, List.mem_range.2 hlj, by rw [HJ.out.2.1, decide_eq_true E1.out, EE.out.1, EE.out.2]; rfl⟩) (by decide)) (by decide) (HJ.out.2.2.2.trans (((Keep.refl [] _).drewN _).below HJ.out.2.2.2.size (by simp)))
                        · have e3b : decide (xs < ys + ly) = false := decide_eq_false e3;have EE := Lib.hid e3b;clear e3;go_upto_region 20 with fail
                          rw [← hW4, ← hyk];clear hW4 hyk o0 o1 d2 zo zl;go_quiet (fail);go_wp2_with fail
                          go_roundg (gk - 1);case measure => omega
                          case rel => exact ⟨j + 1, by omega, by go_num, by rw [HJ.out.1, EE.out]; simp, HJ.out.2.2.1.drewN _⟩
                      · have e2b : decide (ys < xs + vy) = false := decide_eq_false e2;have EE := Lib.hid e2b;clear e2;go_upto_region 20 with fail
                        rw [← hW4, ← hyk];clear hW4 hyk o0 o1 d2 zo zl;go_quiet (fail);go_wp2_with fail
                        go_roundg (gk - 1);case measure => omega
                        case rel => exact ⟨j + 1, by omega, by go_num, by rw [HJ.out.1, EE.out]; simp, HJ.out.2.2.1.drewN _⟩
                    · have e1b : (yb == (q : Int)) = false := by simpa using e1
                      have E1 := Lib.hid e1;clear e1;go_upto_region 20 with fail
                      rw [← hW4, ← hyk];clear hW4 hyk o0 o1 d2 zo zl;go_quiet (fail);go_wp2_with fail
                      go_roundg (gk - 1);case measure => omega
                      case rel => exact ⟨j + 1, by omega, by go_num, by rw [HJ.out.1, decide_eq_false E1.out]; simp, HJ.out.2.2.1.drewN _⟩
                  · obtain rfl : j = k := by omega
                    have k23 := HK3.out.trans hKj (by simp);have huh4 := (k23.block _ (hL_ HI.out.2.2.2.2.2.2.2.1) (by simp)).trans HI.out.2.2.2.2.2.2.2.1;have hvh4 := (k23.block _ (hL_ HI.out.2.2.2.2.2.2.2.2) (by simp)).trans HI.out.2.2.2.2.2.2.2.2;have u1 : wr.cell? ⟨ub, 1, none⟩ = some (.int .i64 xs) := (cOH huh4 1).trans rfl;have v0 : wr.cell? ⟨vb, 0, none⟩ = some (.int .i64 va) := (cOH hvh4 0).trans rfl;have zu := hL_ huh4;have zv := hL_ hvh4;have hx0 : verX p l a j = 0 := by rw [HB.out.2, if_neg (by rw [HQ.out.2.2]; simp), if_neg (by rw [HQ.out.1]; have := HDD.out; omega), if_neg (by rw [HW2.out]; simp), if_neg (by rw [hcl]; simp)]
                    have hvf1 : verF p l a (j + 1) = 0 := by show (if verF p l a j ≠ 0 then verF p l a j else verX p l a j) = 0; rw [if_neg (by rw [HI.out.1]; simp), hx0]
                    have hws : wsum (waitOf l a) (j + 1) = nn + (xs - va) := by show wsum (waitOf l a) j + waitOf l a j = _; rw [HI.out.2.2.2.2.1, ← HI.out.2.2.2.2.2.1]
                    have HE := Lib.hid (And.intro hvf1 (And.intro hws (HI.out.2.1.trans k23 (by simp))));clear hvf1 hws k23 huh4 hvh4 hx0 hcl hKj;go_wp2_with fail
                    rw [← eA, ← eO];go_roundg (gb - 1);case measure => omega
                    case rel => exact ⟨j + 1, nn + (xs - va), by omega, by go_num, rfl, HE.out.2.1.symm, by omega, by omega, HE.out.1, HE.out.2.2⟩
        · obtain rfl : k = l.length := by omega
          have bD := hK.below' G.out.2.2.2.2.1 (by simp);have b1r := hK.below' (Nat.le_refl _) (by simp);have hDr : D ≤ wr.heap.size := by have := G.out.2.2.2.2.1; have := b1r.size; omega
          have hpr := (hK.block _ (hL_ G.out.2.2.1) (by simp)).trans G.out.2.2.1;have r0 : wr.cell? ⟨pb, 0, none⟩ = some (.slice Ac p.chs.length cc) := (cOH hpr 0).trans rfl;have r1 : wr.cell? ⟨pb, 1, none⟩ = some (.slice Ab p.bts.length cb) := (cOH hpr 1).trans rfl;have r2 : wr.cell? ⟨pb, 2, none⟩ = some (.int .i64 p.tugs) := (cOH hpr 2).trans rfl;have zr := hL_ hpr;have kb := best_any D Ac cc Ab cb p Av cv l wr (G.out.1.below bD) (G.out.2.1.below bD) hDr H.out.2.1.symm;obtain ⟨R, hR⟩ : ∃ R, R = bestS p l := ⟨_, rfl⟩;rw [← hR] at kb;have ke : ∀ (wx : World) (A : Option Addr) (kk : Nat), Below wr.heap.size wr wx → R.found.length ≤ 5 → Rd wx 2 A R.found.length (plcs R.found) → Calls Tryz.prog 24 #[.slice A R.found.length kk, .slice Aa l.length ca] wx fun e w' => e = .returned (.bool (decide (R.found = a))) ∧ Below wx.heap.size wx w' := by
            intro wx A kk bx hle hrx;have hra := ((G.out.2.2.2.2.2.below bD).rd hDr).below bx;rw [← HV.out.2] at hra;have := eqPlcs_any A kk R.found Aa ca a wx hrx hra (by omega) (by have := HV.out.2; omega)
            rwa [HV.out.2] at this
          have hvE : verE p l a = if R.found = a then 0 else 7 := by
            unfold verE; rw [if_neg (fun h => h H.out.2.1.symm), if_neg (by rw [HV.out.2]; simp), if_neg (by rw [hvf]; simp), hR]
          have hvN : R.found = a → verN p l a = nn := fun h => by unfold verN; rw [if_pos (by rw [hvE, if_pos h]), hnn]
          have HF := Lib.hid (And.intro kb (And.intro ke (And.intro hvE (And.intro hvN (G.out.2.2.2.1.trans (b1r.mono G.out.2.2.2.1.size))))));clear kb ke hvE hvN hR hK bD b1r hpr hvf hnn;obtain ⟨t, ht⟩ : ∃ t, t = decide (R.found = a) := ⟨_, rfl⟩;have HT := Lib.hid ht;clear ht;cases t
          · go_wp2_with (first | (go_at_call 41; refine HF.out.1.mono ?_; rintro e w2 ⟨A, kk, rfl, o1, o2, o3, o4⟩; have HG := Lib.hid (And.intro o1 (And.intro o2 o3)); clear o1 o2 o3 o4) | (go_at_call 24; refine (HF.out.2.1 _ _ _ HG.out.2.2 HG.out.2.1 HG.out.1).mono ?_; rw [← HT.out]; rintro e w3 ⟨rfl, b3⟩; have HH := Lib.hid b3; clear b3))
            go_ret2
            exact ver_no (by rw [HF.out.2.2.1, if_neg (of_decide_eq_false HT.out.symm)]) (by decide) (HF.out.2.2.2.2.trans ((HG.out.2.2.trans (HH.out.mono HG.out.2.2.size)).mono HF.out.2.2.2.2.size))
          · go_wp2_with (first | (go_at_call 41; refine HF.out.1.mono ?_; rintro e w2 ⟨A, kk, rfl, o1, o2, o3, o4⟩; have HG := Lib.hid (And.intro o1 (And.intro o2 o3)); clear o1 o2 o3 o4) | (go_at_call 24; refine (HF.out.2.1 _ _ _ HG.out.2.2 HG.out.2.1 HG.out.1).mono ?_; rw [← HT.out]; rintro e w3 ⟨rfl, b3⟩; have HH := Lib.hid b3; clear b3))
            go_ret2
            have e0 : R.found = a := of_decide_eq_true HT.out.symm;exact ⟨by rw [HF.out.2.2.1, if_pos e0, HF.out.2.2.2.1 e0]; rfl, HF.out.2.2.2.2.trans ((HG.out.2.2.trans (HH.out.mono HG.out.2.2.size)).mono HF.out.2.2.2.2.size)⟩
    · have hne : ((a.length : Int) != (l.length : Int)) = true := by simp; omega
      have HL := Lib.hid hal;clear hal;go_wp2_with (go_at_call 40; refine H.out.2.2.1.mono ?_; rintro e w1 ⟨rfl, b1⟩; have B1 := Lib.hid b1; clear b1)
      go_ret2
      exact ver_no (by unfold verE; rw [if_neg (fun h => h H.out.2.1.symm), if_pos HL.out]) (by decide) (H.out.1.trans (B1.out.mono H.out.1.size))
  · have hnb : (er != 0) = true := by simp [h0]
    have HC := Lib.hid h0;clear h0;go_wp2_with (go_at_call 40; refine H.out.2.2.1.mono ?_; rintro e w1 ⟨rfl, b1⟩; have B1 := Lib.hid b1; clear b1)
    go_ret2
    exact ver_no (by unfold verE; rw [if_pos (by rw [← H.out.2.1]; exact HC.out), H.out.2.1]) HC.out (H.out.1.trans (B1.out.mono H.out.1.size))
end Go.Proofs.YtalcinepeofmcaaGreat
namespace Go.Proofs.YtalcinepeofmcaaGreat
open Go Go.RowKit Sp Pt
structure LsC where
  pb : Nat
  Ac : Option Addr
  cc : Nat
  Ab : Option Addr
  cb : Nat
  p : Prt
  Av : Option Addr
  cv : Nat
  l : List Vst
  Ao : Option Addr
  co : Nat
  rows : List LRow
structure LsE (c : LsC) (D : Nat) (w : World) : Prop where
  port : w.heap[c.pb]? = some (.cells (prtV c.Ac c.cc c.Ab c.cb c.p) 51 (0, 0))
  pbD : c.pb < D
  bts : BtsB D w c.Ab c.p.bts
  vis : RdB D w 4 c.Av c.l.length (vscs c.l)
  ord : RdB D w 1 c.Ao c.rows.length (c.rows.map LRow.v)
  row : ∀ r ∈ c.rows, RdB D w 1 r.A r.l.length (ints r.l)
structure LsK (c : LsC) : Prop where
  nl : c.l.length ≤ 5
  ok : c.l.all vstOk = true
  nb : 1 ≤ c.p.bts.length ∧ c.p.bts.length ≤ 4
  rows : c.rows.map (·.l) = (ordS c.l.length c.l.length []).map nI
section
variable {c : LsC} {D : Nat} {w w' : World}
theorem LsE.below (h : LsE c D w) (hD : D ≤ w.heap.size) (b : Below D w w') : LsE c D w' :=
  ⟨(b.block _ h.pbD).trans h.port, h.pbD, h.bts.below b, h.vis.below b, h.ord.below b, fun r hr => (h.row r hr).below b⟩
theorem LsE.port1 (h : LsE c D w) : w.cell? ⟨c.pb, 1, none⟩ = some (.slice c.Ab c.p.bts.length c.cb) := (cOH h.port 1).trans rfl
theorem LsE.nth (h : LsE c D w) (K : LsK c) {i k : Nat} {σ : List Nat} (hσ : (ordS c.l.length c.l.length [])[i]? = some σ) (hk : k < c.l.length) :
    ∃ (bo oo bi oi ci q : Nat), σ[k]? = some q ∧ q < c.l.length ∧ i < c.rows.length ∧ c.Ao = some ⟨bo, oo, none⟩ ∧ bo < D ∧ bi < D ∧ w.cell? ⟨bo, oo + i, none⟩ = some (.slice (some ⟨bi, oi, none⟩) c.l.length ci) ∧ w.cell? ⟨bi, oi + k, none⟩ = some (.int .i64 (q : Int)) := by
  have hm := List.mem_of_getElem? hσ;obtain ⟨τ, e, h1, h2, h3⟩ := ordS_mem.1 hm;obtain rfl : σ = τ := by simpa using e
  have hkσ : k < σ.length := by omega
  have hr : (c.rows.map (·.l))[i]? = some (nI σ) := by rw [K.rows, List.getElem?_map, hσ]; rfl
  rw [List.getElem?_map] at hr;obtain ⟨r, hri, hrl⟩ : ∃ r, c.rows[i]? = some r ∧ r.l = nI σ := by
    cases hx : c.rows[i]? with
    | none => rw [hx] at hr; cases hr
    | some r => rw [hx] at hr; exact ⟨r, rfl, by simpa using hr⟩
  obtain ⟨hil, _⟩ := List.getElem?_eq_some_iff.1 hri;have hrr := h.row r (List.mem_of_getElem? hri);have hrn : r.l.length = c.l.length := by rw [hrl, nI_len]; omega
  obtain ⟨bo, oo, eo, hbo, co⟩ := h.ord.2 (by omega);obtain ⟨bi, oi, ei, hbi, ci⟩ := hrr.2 (by omega);refine ⟨bo, oo, bi, oi, r.c, σ[k], List.getElem?_eq_getElem hkσ, (h3 _ (List.getElem_mem hkσ)).1, hil, eo, hbo, hbi, ?_, ci k _ (by rw [hrl]; simp [ints, nI, hkσ])⟩;have := co i _ (by rw [List.getElem?_map, hri]; rfl);rw [this, LRow.v, ei, hrn]
theorem LsE.bert (h : LsE c D w) {b : Nat} (hb : b < c.p.bts.length) : ∃ bb ob, c.Ab = some ⟨bb, ob, none⟩ ∧ bb < D ∧ w.cell? ⟨bb, ob + b * 2, none⟩ = some (.int .i64 (c.p.bts.getD b default).depth) := by
  obtain ⟨bb, ob, Ak, ck, e, h1, h2, _⟩ := h.bts b hb;refine ⟨bb, ob, e, h1, ?_⟩;rw [h2]; simp [List.getD_eq_getElem?_getD, List.getElem?_eq_getElem hb]
structure PlK (c : LsC) (k : Nat) (s : PlS) : Prop where
  free : s.free.length = c.p.bts.length
  pl : s.pl.length = c.l.length
  rest : s.rest ≤ 100000
  bd : ∀ x ∈ s.free, 0 ≤ x ∧ x ≤ 1000 + 100 * k
theorem PlK.at_ {k : Nat} {s : PlS} (h : PlK c k s) {b : Nat} (hb : b < c.p.bts.length) : ∃ e, s.free.getD b 0 = e ∧ s.free[b]? = some e ∧ 0 ≤ e ∧ e ≤ 1000 + 100 * k := by
  have hb2 : b < s.free.length := by have := h.free; omega
  have := h.bd _ (List.getElem_mem hb2);exact ⟨s.free[b], by simp [List.getD_eq_getElem?_getD, List.getElem?_eq_getElem hb2], List.getElem?_eq_getElem hb2, this.1, this.2⟩
theorem LsK.vis (K : LsK c) {q : Nat} (hq : q < c.l.length) : vs c.l q = c.l[q] ∧ 0 ≤ c.l[q].arr ∧ c.l[q].arr ≤ 1000 ∧ c.l[q].arr ≤ c.l[q].last ∧ c.l[q].last ≤ 2000 ∧ 1 ≤ c.l[q].stay ∧ c.l[q].stay ≤ 100 := by
  have := List.all_eq_true.1 K.ok _ (List.getElem_mem hq);simp only [vstOk, Bool.and_eq_true, Pt.within_iff] at this;refine ⟨vs_at hq, ?_⟩;omega
theorem PlK.step (K : LsK c) {k q : Nat} {s : PlS} (h : PlK c k s) (hq : q < c.l.length) : PlK c (k + 1) (plStep c.p c.l s q) := by
  have hb : plB c.p s < c.p.bts.length := Nat.mod_lt _ (by have := K.nb; omega);obtain ⟨e, he, _, h1, h2⟩ := h.at_ hb;obtain ⟨hv, g1, g2, g3, g4, g5, g6⟩ := K.vis hq;refine ⟨by simp [plStep, h.free], by simp [plStep, h.pl], ?_, fun x hx => ?_⟩
  · have h3 := h.rest;have : s.rest / c.p.bts.length ≤ s.rest := Nat.div_le_self _ _;show s.rest / c.p.bts.length ≤ _;omega
  · rcases List.mem_or_eq_of_mem_set hx with hx | hx
    · have := h.bd x hx;constructor
      · omega
      · have e : ((k + 1 : Nat) : Int) = (k : Int) + 1 := by simp
        rw [e]; omega
    · subst hx;unfold plT;rw [he, hv];have e1 : ((k + 1 : Nat) : Int) = (k : Int) + 1 := by simp
      rw [e1];constructor
      · have := Int.le_max_right c.l[q].arr e; omega
      · have := Int.max_le.2 ⟨show c.l[q].arr ≤ 1000 + 100 * k by omega, h2⟩; omega
end
def LmV (W0 : World) (vb ge m b : Nat) (ar x st : Int) : Nat → Value → Prop
  | 0, v => v = .pointer (some ⟨vb, 0, none⟩)
  | 1, v => v = .int .i64 ar
  | 2, v => v = .slice (some ⟨ge, 0, none⟩) m m
  | 3, v => v = .int .i64 b
  | 4, v => v = .pointer (some ⟨ge, b, none⟩)
  | 5, v => v = .int .i64 x
  | 6, v => v = .int .i64 st
  | 7, v => v = .int .i64 st
  | _, _ => True
def LmW (W0 : World) (vb ge m b : Nat) (ar x st : Int) (l : Nat → Bool) (w : World) : Prop := w = W0.drew
theorem least_k {c : LsC} {D : Nat} {wr : World} (E : LsE c D wr) (K : LsK c) (hD : D ≤ wr.heap.size) {i k gp ge n m : Nat} {σ : List Nat} {s : PlS} (hσ : (ordS c.l.length c.l.length [])[i]? = some σ) (hn : n = c.l.length) (hm : m = c.p.bts.length) (hk : k < n) (hi : i ≤ 100000) (P : PlK c k s) (hP : OwnS wr 56 2 (some ⟨gp, 0, none⟩) n n (plcs s.pl) [gp]) (hF : OwnS wr 3 1 (some ⟨ge, 0, none⟩) m m (ints s.free) [ge]) (hpe : gp ≠ ge) (hgD : D ≤ gp ∧ D ≤ ge) {s0 s3 s4 s5 s7 s8 s9 s10 s12 s18 s19 s20 s21 s22 s23 s24 s25 s26 s27 s28 s29 s30 s31 s32 s33 s34 s35 s36 s37 s38 s39 s40 s41 s42 s43 s44 s45 s46 s47 s48 s49 s50 s51 s52 s53 s54 s55 s56 s57 s58 s59 s60 s61 s62 s63 s64 s65 s66 s67 s68 s69 s70 s71 s72 s73 s74 s75 s76 s77 s78 s79 s80 s81 s82 s83 s84 s85 s86 s87 s88 s89 s90 s91 s92 s93 s94 s95 s96 s97 s98 s99 s100 s101 s102 s103 s104 s105 s106 s107 s108 s109 s110 s111 s112 s113 s114 s115 s116 s117 s118 s119 s120 s121 s122 s123 s124 s125 s126 s127 s128 s129 s130 s131 s132 s133 s134 s135 s136 s137 : Value} {Q0 : Exit → Act → World → Prop} {Inv : Act → World → Prop}
    (hInv : ∀ (t18 t19 t20 t54 t55 t56 t57 t58 t59 t60 t61 t62 t63 t64 t65 t66 t67 t68 t69 t70 t71 t72 t73 t74 t75 t76 t77 t78 t79 t80 t81 t82 t83 t84 t85 t86 t87 t88 t89 t90 t91 t92 t93 t94 t95 t96 t97 t98 t99 t100 t101 t102 t103 t104 t105 t106 t107 t108 t109 t110 t111 t112 t113 t114 t115 t116 t117 t118 t119 t120 t121 t122 t123 : Value) (s' : PlS) (w' : World), (∃ q, σ[k]? = some q ∧ s' = plStep c.p c.l s q) → PlK c (k + 1) s' → OwnS w' 56 2 (some ⟨gp, 0, none⟩) n n (plcs s'.pl) [gp] → OwnS w' 3 1 (some ⟨ge, 0, none⟩) m m (ints s'.free) [ge] → Keep [gp, ge] wr w' → Inv ⟨#[s0, .slice c.Av n c.cv, .pointer (some ⟨c.pb, 0, none⟩), s3, s4, s5, .slice c.Ao c.rows.length c.co, s7, s8, s9, s10, .int .i64 (i : Int), s12, .slice (some ⟨gp, 0, none⟩) n n, .slice (some ⟨ge, 0, none⟩) m m, .bool s'.good, .int .i64 (s'.rest : Int), .int .i64 ((k : Int) + 1), t18, t19, t20, s21, s22, s23, s24, s25, s26, s27, s28, s29, s30, s31, s32, s33, s34, s35, s36, s37, s38, s39, s40, s41, s42, s43, s44, s45, s46, s47, s48, s49, s50, s51, s52, s53, t54, t55, t56, t57, t58, t59, t60, t61, t62, t63, t64, t65, t66, t67, t68, t69, t70, t71, t72, t73, t74, t75, t76, t77, t78, t79, t80, t81, t82, t83, t84, t85, t86, t87, t88, t89, t90, t91, t92, t93, t94, t95, t96, t97, t98, t99, t100, t101, t102, t103, t104, t105, t106, t107, t108, t109, t110, t111, t112, t113, t114, t115, t116, t117, t118, t119, t120, t121, t122, t123, s124, s125, s126, s127, s128, s129, s130, s131, s132, s133, s134, s135, s136, s137], []⟩ w') :
    Code.wp Tryz.prog (loopBody Tryz.f43 3) (Exit.then Inv Q0) ⟨#[s0, .slice c.Av n c.cv, .pointer (some ⟨c.pb, 0, none⟩), s3, s4, s5, .slice c.Ao c.rows.length c.co, s7, s8, s9, s10, .int .i64 (i : Int), s12, .slice (some ⟨gp, 0, none⟩) n n, .slice (some ⟨ge, 0, none⟩) m m, .bool s.good, .int .i64 (s.rest : Int), .int .i64 (k : Int), s18, s19, s20, s21, s22, s23, s24, s25, s26, s27, s28, s29, s30, s31, s32, s33, s34, s35, s36, s37, s38, s39, s40, s41, s42, s43, s44, s45, s46, s47, s48, s49, s50, s51, s52, s53, s54, s55, s56, s57, s58, s59, s60, s61, s62, s63, s64, s65, s66, s67, s68, s69, s70, s71, s72, s73, s74, s75, s76, s77, s78, s79, s80, s81, s82, s83, s84, s85, s86, s87, s88, s89, s90, s91, s92, s93, s94, s95, s96, s97, s98, s99, s100, s101, s102, s103, s104, s105, s106, s107, s108, s109, s110, s111, s112, s113, s114, s115, s116, s117, s118, s119, s120, s121, s122, s123, s124, s125, s126, s127, s128, s129, s130, s131, s132, s133, s134, s135, s136, s137], []⟩ wr := by
  conv => arg 2; whnf
  obtain ⟨rest, free, pl, good⟩ := s;simp only at P hP hF ⊢;obtain ⟨bo, oo, bi, oi, ci, q, hq, hql, hir, eAo, hbo, hbi, x1, x2⟩ := E.nth K hσ (show k < c.l.length by omega);obtain ⟨bv, ov, eAv, hbv, v0, v1, v2, v3⟩ := vst_at E.vis hql;obtain ⟨hvs, g1, g2, g3, g4, g5, g6⟩ := K.vis hql;obtain ⟨b, hb⟩ : ∃ b, b = rest % m := ⟨_, rfl⟩;have hm0 : 1 ≤ m ∧ m ≤ 4 := by rw [hm]; exact K.nb
  have hbm : b < m := by rw [hb]; exact Nat.mod_lt _ (by omega)
  obtain ⟨e, he, hes, he0, he1⟩ := P.at_ (show b < c.p.bts.length by omega);obtain ⟨bb, ob, eAb, hbb, y1⟩ := E.bert (show b < c.p.bts.length by omega);have p1 := E.port1;obtain ⟨x, hx⟩ : ∃ x, x = c.l[q] := ⟨_, rfl⟩;rw [← hx] at v0 v1 v2 v3 hvs g1 g2 g3 g4 g5 g6;obtain ⟨va, vl, vy, vd⟩ := x;simp only at v0 v1 v2 v3 g1 g2 g3 g4 g5 g6;obtain ⟨dp, hdp⟩ : ∃ d, d = (c.p.bts.getD b default).depth := ⟨_, rfl⟩;rw [← hdp] at y1;have f1 := (OwnS.one (A := none) hF).2.1 b _ (by simp [ints, hes] : (ints free)[b]? = some (.int .i64 e));have zv := World.block_lt_of_cell? _ _ v0;have zo := World.block_lt_of_cell? _ _ x1;have zi := World.block_lt_of_cell? _ _ x2;have zb := World.block_lt_of_cell? _ _ y1;have zp := hL_ E.port;have hgp : gp < wr.heap.size := hP.lt gp (by simp);have hge : ge < wr.heap.size := (OwnS.one (A := none) hF).1;have fe := (OwnS.one (A := none) hF).2.2 b;have hrb : rest ≤ 100000 := P.rest;have hk5 : k ≤ 5 := by have := K.nl; omega
  have hrk : (k : Int) < (n : Int) := by omega
  have hqn : q < n := by omega
  have hrr : c.rows.length ≤ 100000 ∨ True := .inr trivial;rw [← hm] at p1;rw [← hn] at x1;rw [eAv, eAo];rw [eAb] at p1;have HX := Lib.hid (And.intro E (And.intro K (And.intro hD (And.intro P (And.intro hP (And.intro hF (And.intro hpe (And.intro hn (And.intro hm hgD)))))))));have HY := Lib.hid (And.intro hσ (And.intro hq (And.intro hvs (And.intro hb (And.intro he (And.intro hes (And.intro hdp (And.intro hx (And.intro hInv (And.intro hql (And.intro eAv (And.intro eAo eAb))))))))))));clear E K hD P hP hF hn hm hgD hσ hq hvs he hes hdp hx hInv eAv eAo eAb;have hbI : (rest : Int) % (m : Int) = (b : Int) := by rw [HY.out.2.2.2.1]; simp
  obtain ⟨rd, hrd⟩ : ∃ r, r = rest / m := ⟨_, rfl⟩;have hqI : wrap64 ((rest : Int) / (m : Int)) = (rd : Int) := by
    have h1 : rest / m ≤ rest := Nat.div_le_self _ _;have e1 : (rest : Int) / (m : Int) = (rd : Int) := by rw [hrd]; simp
    rw [e1];exact IntWalk.wrap64_in _ (by omega)
  have HQ := Lib.hid (And.intro hbI (And.intro hqI hrd));clear hbI hqI hrd hb;go_upto_region 25 with fail
  rw [HQ.out.1, HQ.out.2.1];obtain ⟨X, hX⟩ : ∃ X, X = wr.alloc (.cells #[.int .i64 va, .int .i64 vl, .int .i64 vy, .int .i64 vd] 54) := ⟨_, rfl⟩;obtain ⟨vb, hvb⟩ : ∃ b, b = wr.heap.size := ⟨_, rfl⟩;have hvh : X.heap[vb]? = some (.cells #[.int .i64 va, .int .i64 vl, .int .i64 vy, .int .i64 vd] 54 (0, 0)) := by rw [hX, hvb]; exact heap_alloc_new _ _
  have kX : Keep [] wr X := by rw [hX]; exact (Keep.refl _ _).alloc _
  rw [← hX, ← hvb];obtain ⟨st, hst⟩ : ∃ st, st = max va e := ⟨_, rfl⟩;have hmx : (if va < e then e else va) = st := by rw [hst]; simp only [Int.max_def]; split <;> split <;> omega
  have hstb : 0 ≤ st ∧ st ≤ 1500 := by
    rw [hst];exact ⟨by have := Int.le_max_left va e; omega, Int.max_le.2 ⟨by omega, by omega⟩⟩
  have fX := kX.cell f1 (by simp);have HW := Lib.hid (And.intro hvh (And.intro kX (And.intro hst hvb)));have x0 : X.cell? ⟨vb, 0, none⟩ = some (.int .i64 va) := (cOH hvh 0).trans rfl;have y1X := kX.cell y1 (by simp);have p1X := kX.cell p1 (by simp);have x1X := kX.cell x1 (by simp);have x2X := kX.cell x2 (by simp);have zv0 := hL_ hvh;have hge' := Nat.lt_of_lt_of_le hge kX.size;have HX2 := Lib.hid (And.intro y1X (And.intro p1X (And.intro x1X (And.intro x2X hst))));have hbI2 : (0 : Int) ≤ (b : Int) ∧ (b : Int) < (m : Int) := by omega
  clear hvh kX hX hvb hst v0 v1 v2 v3 x1 x2 y1 p1 f1 zv zo zi zb zp hgp hge fe y1X p1X x1X x2X;refine wRS (σ := Unit) (by kernel_rfl) (by kernel_rfl) (fun _ jx vx _ => LmV X vb ge m b va e st jx vx) (fun _ ly wx => LmW X vb ge m b va e st ly wx) () ?_ ?_ ?_
  · exact rfl
  · simp only [AllFrom, Nat.zero_add, Nat.reduceAdd];refine ⟨?_, ?_, ?_, ?_, ?_, ?_, ?_, ?_, trivial⟩
    · refine sP_ fun sg ly a wr hl hd hW hF => ?_;have et18 := hF.old 18 (by kernel_rfl);simp [Act.eval] at et18;exact ⟨by simpa [LmW, upd] using hW, .pointer (some ⟨vb, 0, none⟩), by go_simp, rfl⟩
    · refine sP_ fun sg ly a wr hl hd hW hF => ?_;simp [Region.binds] at hd;have et80 := hF.new 0 80 (by simp [hd]) rfl;simp [LmV, Act.eval] at et80;have hW' := hW;unfold LmW at hW';subst hW';exact ⟨by unfold LmW; rfl, .int .i64 va, by go_simp, rfl⟩
    · refine sP_ fun sg ly a wr hl hd hW hF => ?_;have et14 := hF.old 14 (by kernel_rfl);simp [Act.eval] at et14;exact ⟨by simpa [LmW, upd] using hW, .slice (some ⟨ge, 0, none⟩) m m, by go_simp, rfl⟩
    · refine sP_ fun sg ly a wr hl hd hW hF => ?_;have et19 := hF.old 19 (by kernel_rfl);simp [Act.eval] at et19;exact ⟨by simpa [LmW, upd] using hW, .int .i64 b, by go_simp, rfl⟩
    · refine sP_ fun sg ly a wr hl hd hW hF => ?_;simp [Region.binds] at hd;have et82 := hF.new 2 82 (by simp [hd]) rfl;simp [LmV, Act.eval] at et82;have et83 := hF.new 3 83 (by simp [hd]) rfl;simp [LmV, Act.eval] at et83;exact ⟨by simpa [LmW, upd] using hW, .pointer (some ⟨ge, b, none⟩), by go_simp, rfl⟩
    · refine sP_ fun sg ly a wr hl hd hW hF => ?_;simp [Region.binds] at hd;have et84 := hF.new 4 84 (by simp [hd]) rfl;simp [LmV, Act.eval] at et84;have hW' := hW;unfold LmW at hW';subst hW';exact ⟨by unfold LmW; rfl, .int .i64 e, by go_simp, rfl⟩
    · refine sP_ fun sg ly a wr hl hd hW hF => ?_;simp [Region.binds] at hd;have et81 := hF.new 1 81 (by simp [hd]) rfl;simp [LmV, Act.eval] at et81;have et85 := hF.new 5 85 (by simp [hd]) rfl;simp [LmV, Act.eval] at et85;exact ⟨by simpa [LmW, upd] using hW, .int .i64 st, by go_simp, rfl⟩
    · refine sP_ fun sg ly a wr hl hd hW hF => ?_;simp [Region.binds] at hd;have et86 := hF.new 6 86 (by simp [hd]) rfl;simp [LmV, Act.eval] at et86;exact ⟨by simpa [LmW, upd] using hW, .int .i64 st, by go_simp, rfl⟩
  intro _ a w4 hWW hF;obtain ⟨f4, hf4, rfl⟩ := hF.lit;have e5 := hF.new 7 20 (by decide) rfl;rw [← hf4] at e5;simp only [LmV] at e5;have hw4 : w4 = X.drew := by simpa [LmW] using hWW
  clear hf4 hF hWW;simp only [List.filterMap, List.foldl, List.setIfInBounds_toArray, List.set_cons_succ, List.set_cons_zero, e5];clear e5;have k4 : Keep [] wr w4 := by rw [hw4]; exact HW.out.2.1.drew
  have h4 := (k4.block _ (hL_ HX.out.1.port) (by simp)).trans HX.out.1.port;have hv4 : w4.heap[vb]? = some (.cells #[.int .i64 va, .int .i64 vl, .int .i64 vy, .int .i64 vd] 54 (0, 0)) := by rw [hw4]; exact HW.out.1
  have p1 : w4.cell? ⟨c.pb, 1, none⟩ = some (.slice (some ⟨bb, ob, none⟩) m c.cb) := by rw [hw4]; exact HX2.out.2.1
  have y1 : w4.cell? ⟨bb, ob + b * 2, none⟩ = some (.int .i64 dp) := by rw [hw4]; exact HX2.out.1
  have v1 : w4.cell? ⟨vb, 1, none⟩ = some (.int .i64 vl) := (cOH hv4 1).trans rfl;have v3 : w4.cell? ⟨vb, 3, none⟩ = some (.int .i64 vd) := (cOH hv4 3).trans rfl;have zb := World.block_lt_of_cell? _ _ y1;have zp := hL_ h4;have zv := hL_ hv4;have H4 := Lib.hid (And.intro k4 (And.intro hw4 hv4));clear k4 hw4 h4 hv4 x0 fX zv0 hge' hmx;obtain ⟨G, hG⟩ : ∃ G, G = (good && (decide (vd ≤ dp) && decide (st ≤ vl))) := ⟨_, rfl⟩;go_upto_region 26 with fail
  go_cut [15] from 87 to 104 (fun g wx => g = .bool G ∧ ∃ nq, wx = w4.drewN nq)
  case first =>
    cases good
    · have HG := Lib.hid hG;clear hG;go_quiet (fail);go_wp2_with fail
      go_meet
      exact ⟨by rw [HG.out]; rfl, _, rfl⟩
    · by_cases e1 : vd ≤ dp
      · have d1 : decide (vd ≤ dp) = true := decide_eq_true e1;by_cases e2 : st ≤ vl
        · have d2 : decide (st ≤ vl) = true := decide_eq_true e2;have HG := Lib.hid hG;clear hG e1 e2;go_quiet (fail);go_wp2_with fail
          go_meet
          exact ⟨by rw [HG.out, d1, d2]; rfl, _, rfl⟩
        · have d2 : decide (st ≤ vl) = false := decide_eq_false e2;have HG := Lib.hid hG;clear hG e1 e2;go_quiet (fail);go_wp2_with fail
          go_meet
          exact ⟨by rw [HG.out, d1, d2]; rfl, _, rfl⟩
      · have d1 : decide (vd ≤ dp) = false := decide_eq_false e1;have HG := Lib.hid hG;clear hG e1;go_quiet (fail);go_wp2_with fail
        go_meet
        exact ⟨by rw [HG.out, d1]; rfl, _, rfl⟩
  case rest =>
  obtain ⟨rfl, nq, rfl⟩ := hcut;obtain ⟨W5, hW5, k5⟩ : ∃ W5, W5 = w4.drewN nq ∧ Keep [] wr W5 := ⟨_, rfl, H4.out.1.drewN _⟩;have hv5 : W5.heap[vb]? = some (.cells #[.int .i64 va, .int .i64 vl, .int .i64 vy, .int .i64 vd] 54 (0, 0)) := by rw [hW5]; exact H4.out.2.2
  rw [← hW5]
  apply_assumption
  have hP5 := HX.out.2.2.2.2.1.keepS k5 (by simp);have hF5 := HX.out.2.2.2.2.2.1.keepS k5 (by simp);have hgp0 := hP5.lt gp (by simp);have v2 : W5.cell? ⟨vb, 2, none⟩ = some (.int .i64 vy) := (cOH hv5 2).trans rfl;have f5 := (OwnS.one (A := none) hF5).2.1 b _ (by simp [ints, HY.out.2.2.2.2.2.1] : (ints free)[b]? = some (.int .i64 e));have fz5 := (OwnS.one (A := none) hF5).2.2 b;have hge5 := (OwnS.one (A := none) hF5).1;have zv5 := hL_ hv5;have hD5 := Nat.le_trans HX.out.2.2.1 k5.size;have H5 := Lib.hid (And.intro hP5 (And.intro hF5 (And.intro k5 hG)));clear hP5 hF5 k5 hG hv5 hW5 p1 y1 v1 v3 zb zp zv;go_upto_region 28 with fail
  obtain ⟨W6, hW6⟩ : ∃ W6, W6 = W5.setCell ⟨ge, b, none⟩ (.int .i64 (st + vy)) := ⟨_, rfl⟩;rw [← hW6];have hpe := HX.out.2.2.2.2.2.2.1;have hgD := HX.out.2.2.2.2.2.2.2.2.2;have k6 : Keep [gp, ge] wr W6 := by rw [hW6]; exact (H5.out.2.2.1.mono (by simp)).setCell (.inl (by simp)) _
  have hF6 : OwnS W6 3 1 (some ⟨ge, 0, none⟩) m m (ints (free.set b (st + vy))) [ge] := by
    rw [hW6];have := H5.out.2.1.set1 b hbm (.int .i64 (st + vy))
    rwa [show (ints free).set b (.int .i64 (st + vy)) = ints (free.set b (st + vy)) by simp [ints, List.map_set]] at this
  have hP6 : OwnS W6 56 2 (some ⟨gp, 0, none⟩) n n (plcs pl) [gp] := by
    rw [hW6]; exact H5.out.1.setCell (by simp; exact fun h => hpe h.symm) _
  have hql2 : q < pl.length := by have := HX.out.2.2.2.1.pl; simp only at this; omega
  obtain ⟨g6, eg6, _, hgp6, c6, fz6⟩ := hP6.some_ (by omega);obtain rfl : gp = g6 := by injection eg6 with e; injection e
  have pc0 := c6 _ _ (plcs_get hql2).1;have pc1 := c6 _ _ (plcs_get hql2).2;have pf0 := fz6 (q * 2);have pf1 := fz6 (q * 2 + 1);obtain ⟨bo', oo', bi', oi', ci', q', hq', hql', hir', eAo', hbo', hbi', x1, x2⟩ := LsE.nth HX.out.1 HX.out.2.1 HY.out.1 (show k < c.l.length by have := HX.out.2.2.2.2.2.2.2.1; omega);rw [HY.out.2.1] at hq';injection hq' with hq'
  subst hq';rw [HY.out.2.2.2.2.2.2.2.2.2.2.2.1] at eAo';injection eAo' with eAo'
  injection eAo' with e1 e2 _
  subst e1 e2;rw [← HX.out.2.2.2.2.2.2.2.1] at x1;have x1' := k6.cell x1 (by simp; omega);have x2' := k6.cell x2 (by simp; omega);have zo' := World.block_lt_of_cell? _ _ x1';have zi' := World.block_lt_of_cell? _ _ x2';have hqn2 : (q : Int) < (n : Int) := by omega
  have H6 := Lib.hid (And.intro k6 (And.intro hF6 (And.intro hP6 (And.intro hql2 H5.out.2.2.2))));clear k6 hF6 hP6 hW6 f5 fz5 hge5 v2 zv5 x1 x2 eg6 c6 fz6 hpe hgD;go_wp2_with fail
  have hs' : plStep c.p c.l ⟨rest, free, pl, good⟩ q = ⟨rd, free.set b (st + vy), pl.set q ⟨b, st⟩, G⟩ := by
    have hb2 : plB c.p ⟨rest, free, pl, good⟩ = b := by show rest % c.p.bts.length = b; rw [← HX.out.2.2.2.2.2.2.2.2.1, ← HY.out.2.2.2.1]
    have ht2 : plT c.p c.l ⟨rest, free, pl, good⟩ q = st := by unfold plT; rw [hb2, HY.out.2.2.1]; show max va (free.getD b 0) = st; rw [show free.getD b 0 = e from HY.out.2.2.2.2.1]; exact HW.out.2.2.1.symm
    unfold plStep;rw [hb2, ht2, HY.out.2.2.1, H6.out.2.2.2.2, HY.out.2.2.2.2.2.2.1];simp only;rw [HQ.out.2.2, HX.out.2.2.2.2.2.2.2.2.1]
  have hPK := HX.out.2.2.2.1.step HX.out.2.1 hql;rw [hs'] at hPK;rw [← HY.out.2.2.2.2.2.2.2.2.2.2.1, ← HY.out.2.2.2.2.2.2.2.2.2.2.2.1];refine HY.out.2.2.2.2.2.2.2.2.1 _ _ _ _ _ _ _ _ _ _ _ _ _ _ _ _ _ _ _ _ _ _ _ _ _ _ _ _ _ _ _ _ _ _ _ _ _ _ _ _ _ _ _ _ _ _ _ _ _ _ _ _ _ _ _ _ _ _ _ _ _ _ _ _ _ _ _ _ _ _ _ _ _ ⟨rd, free.set b (st + vy), pl.set q ⟨b, st⟩, G⟩ _ ⟨q, HY.out.2.1, hs'.symm⟩ hPK ?_ ?_ ?_
  · have h := (H6.out.2.2.1.set_ (q * 2) (.int .i64 (b : Int))).set_ (q * 2 + 1) (.int .i64 st)
    rwa [plcs_set ⟨(b : Int), st⟩ pl q H6.out.2.2.2.1] at h
  · exact (H6.out.2.1.setCell (by simp; exact HX.out.2.2.2.2.2.2.1) _).setCell (by simp; exact HX.out.2.2.2.2.2.2.1) _
  · exact (H6.out.1.setCell (.inl (by simp)) _).setCell (.inl (by simp)) _
end Go.Proofs.YtalcinepeofmcaaGreat
