/- port.Verify -/
import Derived.Test.YthmldeningpjbaaPBp19
import Derived.Test.YthmldeningpjbaaProg
import Derived.Test.YthmldeningpjbaaPBp0
import Derived.Test.YthmldeningpjbaaPBp3
set_option linter.unusedVariables false
set_option linter.unusedSimpArgs false
namespace Go.Proofs.Ythmldeningpjbaa.Pt
open Sp
section
variable {p : Prt} {l : List Vst} {a : List Plc} {k : Nat}
theorem verF_stop (h : verF p l a k = 0) (hx : verX p l a k ≠ 0) : ∀ m, verF p l a (k + 1 + m) = verX p l a k
  | 0 => by show (if verF p l a k ≠ 0 then verF p l a k else verX p l a k) = _; rw [if_neg (by rw [h]; simp)]
  | m + 1 => by
    show (if verF p l a (k + 1 + m) ≠ 0 then verF p l a (k + 1 + m) else _) = _
    rw [verF_stop h hx m, if_pos hx]
theorem verF_bad (h : verF p l a k = 0) (hx : verX p l a k ≠ 0) {n : Nat} (hk : k < n) : verF p l a n = verX p l a k := by
  have := verF_stop h hx (n - k - 1)
  rwa [show k + 1 + (n - k - 1) = n from by omega] at this
theorem verE_bad (ha : askedE p l = 0) (hl : a.length = l.length) (h : verF p l a k = 0) {x : Int} (hx : verX p l a k = x) (h0 : x ≠ 0) (hk : k < l.length) : verE p l a = x ∧ verN p l a = 0 := by
  have e : verF p l a l.length = x := by rw [verF_bad h (by rw [hx]; exact h0) hk, hx]
  have e1 : verE p l a = x := by unfold verE; rw [if_neg (by rw [ha]; simp), if_neg (by rw [hl]; simp), if_pos (by rw [e]; exact h0), e]
  exact ⟨e1, by unfold verN; rw [if_neg (by rw [e1]; exact h0)]⟩
theorem pc_at (hk : k < a.length) : pc a k = a[k] := by simp [pc, hk]
theorem vs_at (hk : k < l.length) : vs l k = l[k] := by simp [vs, hk]
end
end Go.Proofs.Ythmldeningpjbaa.Pt
namespace Go.Proofs.Ythmldeningpjbaa
open Go Go.RowKit Sp Pt
set_option linter.unusedVariables false
set_option linter.unusedSimpArgs false

def VerPost (w : World) (p : Prt) (l : List Vst) (a : List Plc) (e : Ending) (w' : World) : Prop :=
  e = .returned (.tuple #[.int .i64 (verN p l a), .int .i64 (verE p l a)]) ∧ Below w.heap.size w w'
theorem ver_no {w w' : World} {p : Prt} {l : List Vst} {a : List Plc} {er : Int} (he : verE p l a = er) (h0 : er ≠ 0) (b : Below w.heap.size w w') : VerPost w p l a (.returned (.tuple #[.int .i64 0, .int .i64 er])) w' := by
  have e1 : verN p l a = 0 := by unfold verN; rw [if_neg (by rw [he]; exact h0)]
  exact ⟨by rw [e1, he], b⟩
/-- a place out of a list that lies below D -/
theorem plc_at {D : Nat} {w : World} {A : Option Addr} {a : List Plc} (h : RdB D w 2 A a.length (plcs a)) {k : Nat} (hk : k < a.length) : ∃ b off, A = some ⟨b, off, none⟩ ∧ b < D ∧ w.cell? ⟨b, off + k * 2, none⟩ = some (.int .i64 a[k].berth) ∧
    w.cell? ⟨b, off + k * 2 + 1, none⟩ = some (.int .i64 a[k].start) := by
  obtain ⟨b, off, e, hb, hc⟩ := h.2 (by omega)
  obtain ⟨g0, g1⟩ := plcs_get hk
  exact ⟨b, off, e, hb, hc _ _ g0, hc _ _ g1⟩

set_option maxRecDepth 100000 in
set_option maxHeartbeats 4000000 in
theorem Verify_any (D : Nat) (Ac : Option Addr) (cc : Nat) (Ab : Option Addr) (cb : Nat) (p : Prt) (Av : Option Addr) (cv : Nat) (l : List Vst) (Aa : Option Addr) (ca : Nat) (a : List Plc) (w : World) (PB : PrtB D w Ac cc Ab cb p) (VB : RdB D w 4 Av l.length (vscs l)) (AB : RdB D w 2 Aa a.length (plcs a)) (hca : a.length ≤ ca ∧ ca ≤ 9223372036854775807) (hD : D ≤ w.heap.size) :
    Calls Try.prog 48 #[.agg (prtV Ac cc Ab cb p), .slice Av l.length cv, .slice Aa a.length ca] w (VerPost w p l a) := by
  obtain ⟨W, hW⟩ : ∃ W, W = w.alloc (.cells (prtV Ac cc Ab cb p) 26) := ⟨_, rfl⟩
  obtain ⟨pb, hpb⟩ : ∃ b, b = w.heap.size := ⟨_, rfl⟩
  have hh : W.heap[pb]? = some (.cells (prtV Ac cc Ab cb p) 26 (0, 0)) := by rw [hW, hpb]; exact heap_alloc_new _ _
  have b0 : Below w.heap.size w W := by rw [hW]; exact (Below.refl _ _).alloc (Nat.le_refl _) _
  have hD1 : D ≤ W.heap.size := by have := b0.size; omega
  have c0 : W.cell? ⟨pb, 0, none⟩ = some (.slice Ac p.chs.length cc) := (cell_of_heap hh 0).trans rfl
  have c1 : W.cell? ⟨pb, 1, none⟩ = some (.slice Ab p.bts.length cb) := (cell_of_heap hh 1).trans rfl
  have c2 : W.cell? ⟨pb, 2, none⟩ = some (.int .i64 p.tugs) := (cell_of_heap hh 2).trans rfl
  have zp := heap_lt hh
  obtain ⟨er, her⟩ : ∃ er, er = askedE p l := ⟨_, rfl⟩
  have PB1 := PB.below (b0.mono hD)
  have VB1 := VB.below (b0.mono hD)
  have AB1 := AB.below (b0.mono hD)
  have ka := asked_any D Ac cc Ab cb p Av cv l W PB1 (VB1.rd hD1) hD1
  rw [← her] at ka
  have H := Lib.hid (And.intro b0 (And.intro her (And.intro ka (And.intro PB1 (And.intro VB1 (And.intro hh AB1))))))
  clear hh b0 ka her PB VB PB1 VB1 AB AB1
  go_enter Try.func48, Try.ntmps48
  go_upto_region 1 with fail
  rw [← hW, ← hpb]
  clear hW hpb
  by_cases h0 : er = 0
  · subst h0
    by_cases hal : a.length = l.length
    · have hck : checkP p = 0 ∧ l.length ≤ 5 ∧ l.all vstOk = true := by
        have hok := H.out.2.1.symm
        unfold askedE at hok
        split at hok
        · rename_i h; exact absurd hok h
        · rename_i h
          split at hok
          · cases hok
          · split at hok
            · cases hok
            · rename_i h2 h3; exact ⟨by omega, by omega, by simpa using h3⟩
      have hnl := hck.2.1
      have hnb := (checkP_ok hck.1).nb
      have hvok : ∀ v ∈ l, 0 ≤ v.arr ∧ v.arr ≤ 1000 ∧ v.arr ≤ v.last ∧ v.last ≤ 2000 ∧ 1 ≤ v.stay ∧ v.stay ≤ 100 ∧ 10 ≤ v.dra ∧ v.dra ≤ 3000 := fun v hv => by
        have := List.all_eq_true.1 hck.2.2 v hv
        simp only [vstOk, Bool.and_eq_true, Pt.within_iff] at this
        omega
      have HV := Lib.hid (And.intro hvok hal)
      have hne : ((l.length : Int) != (l.length : Int)) = false := by simp
      have AB2 := H.out.2.2.2.2.2.2
      rw [hal] at AB2
      have HAB := Lib.hid AB2
      have hca' : l.length ≤ ca := by omega
      rw [hal]
      clear hck hvok hal AB2
      go_upto_region 4 with (go_at_call 104; refine H.out.2.2.1.mono ?_; rintro e w1 ⟨rfl, b1⟩; have B1 := Lib.hid b1; clear b1)
      have hh1 := (B1.out.block _ (heap_lt H.out.2.2.2.2.2.1)).trans H.out.2.2.2.2.2.1
      have hDw : D ≤ w1.heap.size := by have := B1.out.size; omega
      have G := Lib.hid (And.intro (H.out.2.2.2.1.below (B1.out.mono hD1)) (And.intro (H.out.2.2.2.2.1.below (B1.out.mono hD1)) (And.intro hh1 (And.intro (H.out.1.trans (B1.out.mono H.out.1.size)) (And.intro hDw (HAB.out.below (B1.out.mono hD1)))))))
      clear c0 c1 c2 zp hh1 hDw
      go_wp2_with fail
      go_loopg [9, 30] (l.length) (fun g n i wr => ∃ (k : Nat) (nn : Int), g + k = l.length ∧ i = .int .i64 k ∧ n = .int .i64 nn ∧ nn = wsum (waitOf l a) k ∧ 0 ≤ nn ∧ nn ≤ 2000 * k ∧ verF p l a k = 0 ∧ Keep [] w1 wr)
      case atStart => exact ⟨0, 0, rfl, rfl, rfl, rfl, by omega, by omega, rfl, Keep.refl _ _⟩
      case round =>
        obtain ⟨k, nn, hk, rfl, rfl, hnn, hn0, hn1, hvf, hK⟩ := hrel
        by_cases hlt : k < l.length
        · obtain ⟨gb, rfl⟩ : ∃ gb, gb = gk := ⟨_, rfl⟩
          have hka : k < a.length := by have := HV.out.2; omega
          have bD := hK.below' G.out.2.2.2.2.1 (by simp)
          obtain ⟨b, off, eA, hbD, d0, d1, d2, d3⟩ := vst_at (G.out.2.1.below bD) hlt
          have AB3 := G.out.2.2.2.2.2.below bD
          rw [← HV.out.2] at AB3
          obtain ⟨ob, oo, eO, hoD, o0, o1⟩ := plc_at AB3 hka
          obtain ⟨x, hx⟩ : ∃ x, x = a[k] := ⟨_, rfl⟩
          obtain ⟨v, hv⟩ : ∃ v, v = l[k] := ⟨_, rfl⟩
          have hvo := HV.out.1 l[k] (List.getElem_mem _)
          rw [← hv] at d0 d1 d2 d3 hvo
          rw [← hx] at o0 o1
          have zb := World.block_lt_of_cell? _ _ d0
          have zo := World.block_lt_of_cell? _ _ o0
          obtain ⟨xb, xs⟩ := x
          obtain ⟨va, vl, vy, vd⟩ := v
          simp only at d0 d1 d2 d3 hvo o0 o1 zb zo
          obtain ⟨W2, hW2⟩ : ∃ W2, W2 = (wr.alloc (.cells #[.int .i64 xb, .int .i64 xs] 109)).alloc (.cells #[.int .i64 va, .int .i64 vl, .int .i64 vy, .int .i64 vd] 102) := ⟨_, rfl⟩
          obtain ⟨ub, hub⟩ : ∃ xb, xb = wr.heap.size := ⟨_, rfl⟩
          obtain ⟨vb, hvb⟩ : ∃ xb, xb = wr.heap.size + 1 := ⟨_, rfl⟩
          have huh : W2.heap[ub]? = some (.cells #[.int .i64 xb, .int .i64 xs] 109 (0, 0)) := by rw [hW2, hub]; exact heap_alloc' (heap_alloc_new _ _) _
          have hvh : W2.heap[vb]? = some (.cells #[.int .i64 va, .int .i64 vl, .int .i64 vy, .int .i64 vd] 102 (0, 0)) := by
            rw [hW2, hvb]
            have := heap_alloc_new (wr.alloc (.cells #[.int .i64 xb, .int .i64 xs] 109)) (.cells #[.int .i64 va, .int .i64 vl, .int .i64 vy, .int .i64 vd] 102)
            rwa [World.size_alloc] at this
          have k2 : Keep [] w1 W2 := by rw [hW2]; exact (hK.alloc _).alloc _
          have hp2 := (k2.block _ (heap_lt G.out.2.2.1) (by simp)).trans G.out.2.2.1
          have u0 : W2.cell? ⟨ub, 0, none⟩ = some (.int .i64 xb) := (cell_of_heap huh 0).trans rfl
          have u1 : W2.cell? ⟨ub, 1, none⟩ = some (.int .i64 xs) := (cell_of_heap huh 1).trans rfl
          have v0 : W2.cell? ⟨vb, 0, none⟩ = some (.int .i64 va) := (cell_of_heap hvh 0).trans rfl
          have v1 : W2.cell? ⟨vb, 1, none⟩ = some (.int .i64 vl) := (cell_of_heap hvh 1).trans rfl
          have v2 : W2.cell? ⟨vb, 2, none⟩ = some (.int .i64 vy) := (cell_of_heap hvh 2).trans rfl
          have v3 : W2.cell? ⟨vb, 3, none⟩ = some (.int .i64 vd) := (cell_of_heap hvh 3).trans rfl
          have r1 : W2.cell? ⟨pb, 1, none⟩ = some (.slice Ab p.bts.length cb) := (cell_of_heap hp2 1).trans rfl
          have zu := heap_lt huh
          have zv := heap_lt hvh
          have zp := heap_lt hp2
          have hpk : pc a k = ⟨xb, xs⟩ := by rw [pc_at hka, ← hx]
          have hvk : vs l k = ⟨va, vl, vy, vd⟩ := by rw [vs_at hlt, ← hv]
          have hwt : waitOf l a k = xs - va := by unfold waitOf; rw [hpk, hvk]
          have bw2 : Below w.heap.size w W2 := G.out.2.2.2.1.trans ((k2.below' (Nat.le_refl _) (by simp)).mono G.out.2.2.2.1.size)
          have HI := Lib.hid (And.intro hvf (And.intro k2 (And.intro hpk (And.intro hvk (And.intro hwt (And.intro hnn (And.intro bw2 (And.intro huh hvh))))))))
          clear hvf hK bD AB3 k2 hp2 hpk hvk hwt hnn bw2 huh hvh hx hv
          rw [eA, eO]
          go_upto_region 11 with fail
          rw [← hW2, ← hvb, ← hub]
          clear hW2 hvb hub d0 d1 d2 d3 zb o0 o1 zo
          have hbad : ∀ x, verX p l a k = x → x ≠ 0 → verE p l a = x := fun x h1 h2 => (verE_bad H.out.2.1.symm HV.out.2 HI.out.1 h1 h2 hlt).1
          have hX : verX p l a k = if within xb 0 ((p.bts.length : Int) - 1) = false then 6 else if (bt p xb).depth < vd then 100 else if within xs va vl = false then 12 else if (List.range k).any (clash l a k) = true then 9 else 0 := by
            unfold verX; rw [HI.out.2.2.1, HI.out.2.2.2.1]
          have HB := Lib.hid (And.intro hbad hX)
          clear hbad hX
          cases hw1 : within xb 0 ((p.bts.length : Int) - 1)
          · go_wp2_with (go_at_call 80; refine (ptWithin_any _ _ _ _).mono ?_; rintro e w' ⟨rfl, rfl⟩)
            go_ret2
            exact ver_no (HB.out.1 6 (by rw [HB.out.2, if_pos hw1]) (by decide)) (by decide) HI.out.2.2.2.2.2.2.1
          · obtain ⟨q, hq⟩ : ∃ q : Nat, xb = q := ⟨xb.toNat, by simp [within] at hw1; omega⟩
            subst hq
            have hqb : q < p.bts.length := by simp [within] at hw1; omega
            obtain ⟨b', off', Ak, ck, eB, hbD', e0, _, _⟩ := (G.out.1.below (HI.out.2.1.below' G.out.2.2.2.2.1 (by simp))).bts q hqb
            obtain ⟨dp, hdp⟩ : ∃ z, z = (p.bts[q]).depth := ⟨_, rfl⟩
            rw [← hdp] at e0
            have hdq : (bt p (q : Int)).depth = dp := by rw [hdp]; simp [bt, hqb]
            have zq := World.block_lt_of_cell? _ _ e0
            simp only at zq
            have hqI : (0 : Int) ≤ (q : Int) ∧ (q : Int) < (p.bts.length : Int) := by omega
            have HQ := Lib.hid (And.intro hdq (And.intro eB hw1))
            rw [eB] at r1
            clear hdq hdp eB
            by_cases hdd : dp < vd
            · go_upto_region 13 with (go_at_call 80; refine (ptWithin_any _ _ _ _).mono ?_; rintro e w' ⟨rfl, rfl⟩)
              clear hw1
              go_quiet (fail)
              go_wp2_with fail
              go_ret2
              exact ver_no (HB.out.1 100 (by rw [HB.out.2, if_neg (by rw [HQ.out.2.2]; simp), if_pos (by rw [HQ.out.1]; exact hdd)]) (by decide)) (by decide) (((Keep.refl [] _).drewN _).below (Nat.le_refl _) (by simp) |>.mono HI.out.2.2.2.2.2.2.1.size |> HI.out.2.2.2.2.2.2.1.trans)
            · have hdf : decide (dp < vd) = false := decide_eq_false hdd
              have HDD := Lib.hid hdd
              clear hdd
              cases hw2 : within xs va vl
              · go_upto_region 13 with (go_at_call 80; refine (ptWithin_any _ _ _ _).mono ?_; rintro e w' ⟨rfl, rfl⟩)
                clear hw1
                go_quiet (fail)
                go_wp2_with (go_at_call 80; refine (ptWithin_any _ _ _ _).mono ?_; rintro e w' ⟨rfl, rfl⟩)
                go_ret2
                exact ver_no (HB.out.1 12 (by rw [HB.out.2, if_neg (by rw [HQ.out.2.2]; simp), if_neg (by rw [HQ.out.1]; have := HDD.out; omega), if_pos hw2]) (by decide)) (by decide) (((Keep.refl [] _).drewN _).below (Nat.le_refl _) (by simp) |>.mono HI.out.2.2.2.2.2.2.1.size |> HI.out.2.2.2.2.2.2.1.trans)
              · have hxs : va ≤ xs ∧ xs ≤ vl := by simpa [within] using hw2
                have HW2 := Lib.hid hw2
                go_upto_region 13 with (go_at_call 80; refine (ptWithin_any _ _ _ _).mono ?_; rintro e w' ⟨rfl, rfl⟩)
                clear hw1
                go_quiet (fail)
                go_upto_region 17 with (go_at_call 80; refine (ptWithin_any _ _ _ _).mono ?_; rintro e w' ⟨rfl, rfl⟩)
                obtain ⟨W3, hW3, k3⟩ : ∃ W3, W3 = _ ∧ Keep [] W2 W3 := ⟨_, rfl, (Keep.refl _ _).drewN _⟩
                rw [← hW3]
                clear hW3 hw2 e0 r1 zp u0 u1 v0 v1 v2 v3 zu zv zq
                have HK3 := Lib.hid k3
                clear k3
                have hkc : (k : Int) ≤ (ca : Int) := by omega
                go_wp2_with fail
                go_loopg [72] k (fun g i wr => ∃ j : Nat, g + j = k ∧ i = .int .i64 j ∧ (List.range j).any (clash l a k) = false ∧ Keep [] W3 wr)
                case atStart => exact ⟨0, rfl, rfl, rfl, Keep.refl _ _⟩
                case round =>
                  obtain ⟨j, hj, rfl, hcl, hKj⟩ := hrel
                  by_cases hlj : j < k
                  · have hja : j < a.length := by omega
                    have hjl : j < l.length := by omega
                    have k02 := (HK3.out.trans hKj (by simp))
                    have bD := (HI.out.2.1.trans k02 (by simp)).below' G.out.2.2.2.2.1 (by simp)
                    have AB3 := G.out.2.2.2.2.2.below bD
                    rw [← HV.out.2] at AB3
                    obtain ⟨ob', oo', eO', hoD', o0, o1⟩ := plc_at AB3 hja
                    obtain ⟨b2, off2, eA2, hbD2, _, _, d2, _⟩ := vst_at (G.out.2.1.below bD) hjl
                    rw [eO] at eO'
                    injection eO' with eO'
                    injection eO' with e1 e2 _
                    subst e1 e2
                    rw [eA] at eA2
                    injection eA2 with eA2
                    injection eA2 with e1 e2 _
                    subst e1 e2
                    obtain ⟨yb, hyb⟩ : ∃ x, x = (a[j]).berth := ⟨_, rfl⟩
                    obtain ⟨ys, hys⟩ : ∃ x, x = (a[j]).start := ⟨_, rfl⟩
                    obtain ⟨ly, hly⟩ : ∃ x, x = (l[j]).stay := ⟨_, rfl⟩
                    have hpj : pc a j = ⟨yb, ys⟩ := by rw [pc_at hja, hyb, hys]
                    have hvj : (vs l j).stay = ly := by rw [vs_at hjl, hly]
                    have hFj := (verX_zero.1 (verF_zero k |>.1 HI.out.1 j hlj)).1
                    have hf1 := hFj.lo
                    have hf2 := hFj.hi
                    rw [hpj, vs_at hjl] at hf1 hf2
                    simp only at hf1 hf2
                    have hvo2 := HV.out.1 l[j] (List.getElem_mem _)
                    rw [← hly] at hvo2 d2
                    rw [← hyb] at o0
                    rw [← hys] at o1
                    have hys0 : 0 ≤ ys ∧ ys ≤ 2000 ∧ 1 ≤ ly ∧ ly ≤ 100 := by omega
                    clear hf1 hf2 hvo2 hFj
                    have zo := World.block_lt_of_cell? _ _ o0
                    have zl := World.block_lt_of_cell? _ _ d2
                    simp only at zo zl
                    obtain ⟨W4, hW4⟩ : ∃ W4, W4 = wr.alloc (.cells #[.int .i64 yb, .int .i64 ys] 109) := ⟨_, rfl⟩
                    obtain ⟨yk, hyk⟩ : ∃ xb, xb = wr.heap.size := ⟨_, rfl⟩
                    have hyh : W4.heap[yk]? = some (.cells #[.int .i64 yb, .int .i64 ys] 109 (0, 0)) := by rw [hW4, hyk]; exact heap_alloc_new _ _
                    have k34 : Keep [] W3 W4 := by rw [hW4]; exact hKj.alloc _
                    have k24 := HK3.out.trans k34 (by simp)
                    have hk44 : Keep [] wr W4 := by rw [hW4]; exact (Keep.refl _ _).alloc _
                    have d2' := hk44.cell d2 (by simp)
                    have huh4 := (k24.block _ (heap_lt HI.out.2.2.2.2.2.2.2.1) (by simp)).trans HI.out.2.2.2.2.2.2.2.1
                    have hvh4 := (k24.block _ (heap_lt HI.out.2.2.2.2.2.2.2.2) (by simp)).trans HI.out.2.2.2.2.2.2.2.2
                    have u0 : W4.cell? ⟨ub, 0, none⟩ = some (.int .i64 q) := (cell_of_heap huh4 0).trans rfl
                    have u1 : W4.cell? ⟨ub, 1, none⟩ = some (.int .i64 xs) := (cell_of_heap huh4 1).trans rfl
                    have v2 : W4.cell? ⟨vb, 2, none⟩ = some (.int .i64 vy) := (cell_of_heap hvh4 2).trans rfl
                    have w0 : W4.cell? ⟨yk, 0, none⟩ = some (.int .i64 yb) := (cell_of_heap hyh 0).trans rfl
                    have w1' : W4.cell? ⟨yk, 1, none⟩ = some (.int .i64 ys) := (cell_of_heap hyh 1).trans rfl
                    have zu := heap_lt huh4
                    have zv := heap_lt hvh4
                    have zy := heap_lt hyh
                    have zl4 := Nat.lt_of_lt_of_le zl hk44.size
                    have hcj : clash l a k j = (decide (yb = (q : Int)) && (decide (ys < xs + vy) && decide (xs < ys + ly))) := by unfold clash; rw [hpj, HI.out.2.2.1, HI.out.2.2.2.1, hvj]
                    have hr1 : (List.range (j + 1)).any (clash l a k) = ((List.range j).any (clash l a k) || clash l a k j) := by rw [List.range_succ, List.any_append]; simp
                    rw [hcl, hcj, Bool.false_or] at hr1
                    have HJ := Lib.hid (And.intro hr1 (And.intro hcj (And.intro k34 (G.out.2.2.2.1.trans (((HI.out.2.1.trans k24 (by simp)).below' (Nat.le_refl _) (by simp)).mono G.out.2.2.2.1.size)))))
                    have hjI : (0 : Int) ≤ (j : Int) ∧ (j : Int) < (k : Int) ∧ (j : Int) < (l.length : Int) := by omega
                    clear hr1 hcj k34 k24 k02 bD AB3 hcl hKj huh4 hvh4 hyh hk44 hpj hvj hyb hys hly
                    by_cases e1 : yb = (q : Int)
                    · have e1b : (yb == (q : Int)) = true := by simp [e1]
                      have E1 := Lib.hid e1
                      clear e1
                      by_cases e2 : ys < xs + vy
                      · have e2b : decide (ys < xs + vy) = true := decide_eq_true e2
                        by_cases e3 : xs < ys + ly
                        · have e3b : decide (xs < ys + ly) = true := decide_eq_true e3
                          have EE := Lib.hid (And.intro e2b e3b)
                          go_upto_region 20 with fail
                          rw [← hW4, ← hyk]
                          clear hW4 hyk o0 o1 d2 zo zl
                          go_quiet (fail)
                          go_wp2_with fail
                          go_ret2
                          exact ver_no (HB.out.1 9 (by
                            rw [HB.out.2, if_neg (by rw [HQ.out.2.2]; simp), if_neg (by rw [HQ.out.1]; have := HDD.out; omega), if_neg (by rw [HW2.out]; simp), if_pos]
                            rw [List.any_eq_true]
                            exact ⟨j, List.mem_range.2 hlj, by rw [HJ.out.2.1, decide_eq_true E1.out, EE.out.1, EE.out.2]; rfl⟩) (by decide)) (by decide) (HJ.out.2.2.2.trans (((Keep.refl [] _).drewN _).below HJ.out.2.2.2.size (by simp)))
                        · have e3b : decide (xs < ys + ly) = false := decide_eq_false e3
                          have EE := Lib.hid e3b
                          clear e3
                          go_upto_region 20 with fail
                          rw [← hW4, ← hyk]
                          clear hW4 hyk o0 o1 d2 zo zl
                          go_quiet (fail)
                          go_wp2_with fail
                          go_roundg (gk - 1)
                          case measure => omega
                          case rel => exact ⟨j + 1, by omega, by go_num, by rw [HJ.out.1, EE.out]; simp, HJ.out.2.2.1.drewN _⟩
                      · have e2b : decide (ys < xs + vy) = false := decide_eq_false e2
                        have EE := Lib.hid e2b
                        clear e2
                        go_upto_region 20 with fail
                        rw [← hW4, ← hyk]
                        clear hW4 hyk o0 o1 d2 zo zl
                        go_quiet (fail)
                        go_wp2_with fail
                        go_roundg (gk - 1)
                        case measure => omega
                        case rel => exact ⟨j + 1, by omega, by go_num, by rw [HJ.out.1, EE.out]; simp, HJ.out.2.2.1.drewN _⟩
                    · have e1b : (yb == (q : Int)) = false := by simpa using e1
                      have E1 := Lib.hid e1
                      clear e1
                      go_upto_region 20 with fail
                      rw [← hW4, ← hyk]
                      clear hW4 hyk o0 o1 d2 zo zl
                      go_quiet (fail)
                      go_wp2_with fail
                      go_roundg (gk - 1)
                      case measure => omega
                      case rel => exact ⟨j + 1, by omega, by go_num, by rw [HJ.out.1, decide_eq_false E1.out]; simp, HJ.out.2.2.1.drewN _⟩
                  · obtain rfl : j = k := by omega
                    have k23 := HK3.out.trans hKj (by simp)
                    have huh4 := (k23.block _ (heap_lt HI.out.2.2.2.2.2.2.2.1) (by simp)).trans HI.out.2.2.2.2.2.2.2.1
                    have hvh4 := (k23.block _ (heap_lt HI.out.2.2.2.2.2.2.2.2) (by simp)).trans HI.out.2.2.2.2.2.2.2.2
                    have u1 : wr.cell? ⟨ub, 1, none⟩ = some (.int .i64 xs) := (cell_of_heap huh4 1).trans rfl
                    have v0 : wr.cell? ⟨vb, 0, none⟩ = some (.int .i64 va) := (cell_of_heap hvh4 0).trans rfl
                    have zu := heap_lt huh4
                    have zv := heap_lt hvh4
                    have hx0 : verX p l a j = 0 := by rw [HB.out.2, if_neg (by rw [HQ.out.2.2]; simp), if_neg (by rw [HQ.out.1]; have := HDD.out; omega), if_neg (by rw [HW2.out]; simp), if_neg (by rw [hcl]; simp)]
                    have hvf1 : verF p l a (j + 1) = 0 := by show (if verF p l a j ≠ 0 then verF p l a j else verX p l a j) = 0; rw [if_neg (by rw [HI.out.1]; simp), hx0]
                    have hws : wsum (waitOf l a) (j + 1) = nn + (xs - va) := by show wsum (waitOf l a) j + waitOf l a j = _; rw [HI.out.2.2.2.2.1, ← HI.out.2.2.2.2.2.1]
                    have HE := Lib.hid (And.intro hvf1 (And.intro hws (HI.out.2.1.trans k23 (by simp))))
                    clear hvf1 hws k23 huh4 hvh4 hx0 hcl hKj
                    go_wp2_with fail
                    rw [← eA, ← eO]
                    go_roundg (gb - 1)
                    case measure => omega
                    case rel => exact ⟨j + 1, nn + (xs - va), by omega, by go_num, rfl, HE.out.2.1.symm, by omega, by omega, HE.out.1, HE.out.2.2⟩
        · obtain rfl : k = l.length := by omega
          have bD := hK.below' G.out.2.2.2.2.1 (by simp)
          have b1r := hK.below' (Nat.le_refl _) (by simp)
          have hDr : D ≤ wr.heap.size := by have := G.out.2.2.2.2.1; have := b1r.size; omega
          have hpr := (hK.block _ (heap_lt G.out.2.2.1) (by simp)).trans G.out.2.2.1
          have r0 : wr.cell? ⟨pb, 0, none⟩ = some (.slice Ac p.chs.length cc) := (cell_of_heap hpr 0).trans rfl
          have r1 : wr.cell? ⟨pb, 1, none⟩ = some (.slice Ab p.bts.length cb) := (cell_of_heap hpr 1).trans rfl
          have r2 : wr.cell? ⟨pb, 2, none⟩ = some (.int .i64 p.tugs) := (cell_of_heap hpr 2).trans rfl
          have zr := heap_lt hpr
          have kb := best_any D Ac cc Ab cb p Av cv l wr (G.out.1.below bD) (G.out.2.1.below bD) hDr H.out.2.1.symm
          obtain ⟨R, hR⟩ : ∃ R, R = bestS p l := ⟨_, rfl⟩
          rw [← hR] at kb
          have ke : ∀ (wx : World) (A : Option Addr) (kk : Nat), Below wr.heap.size wr wx → R.found.length ≤ 5 → Rd wx 2 A R.found.length (plcs R.found) → Calls Try.prog 49 #[.slice A R.found.length kk, .slice Aa l.length ca] wx fun e w' => e = .returned (.bool (decide (R.found = a))) ∧ Below wx.heap.size wx w' := by
            intro wx A kk bx hle hrx
            have hra := ((G.out.2.2.2.2.2.below bD).rd hDr).below bx
            rw [← HV.out.2] at hra
            have := eqPlcs_any A kk R.found Aa ca a wx hrx hra (by omega) (by have := HV.out.2; omega)
            rwa [HV.out.2] at this
          have hvE : verE p l a = if R.found = a then 0 else 7 := by
            unfold verE; rw [if_neg (fun h => h H.out.2.1.symm), if_neg (by rw [HV.out.2]; simp), if_neg (by rw [hvf]; simp), hR]
          have hvN : R.found = a → verN p l a = nn := fun h => by unfold verN; rw [if_pos (by rw [hvE, if_pos h]), hnn]
          have HF := Lib.hid (And.intro kb (And.intro ke (And.intro hvE (And.intro hvN (G.out.2.2.2.1.trans (b1r.mono G.out.2.2.2.1.size))))))
          clear kb ke hvE hvN hR hK bD b1r hpr hvf hnn
          obtain ⟨t, ht⟩ : ∃ t, t = decide (R.found = a) := ⟨_, rfl⟩
          have HT := Lib.hid ht
          clear ht
          cases t
          · go_wp2_with (first | (go_at_call 105; refine HF.out.1.mono ?_; rintro e w2 ⟨A, kk, rfl, o1, o2, o3, o4⟩; have HG := Lib.hid (And.intro o1 (And.intro o2 o3)); clear o1 o2 o3 o4) | (go_at_call 49; refine (HF.out.2.1 _ _ _ HG.out.2.2 HG.out.2.1 HG.out.1).mono ?_; rw [← HT.out]; rintro e w3 ⟨rfl, b3⟩; have HH := Lib.hid b3; clear b3))
            go_ret2
            exact ver_no (by rw [HF.out.2.2.1, if_neg (of_decide_eq_false HT.out.symm)]) (by decide) (HF.out.2.2.2.2.trans ((HG.out.2.2.trans (HH.out.mono HG.out.2.2.size)).mono HF.out.2.2.2.2.size))
          · go_wp2_with (first | (go_at_call 105; refine HF.out.1.mono ?_; rintro e w2 ⟨A, kk, rfl, o1, o2, o3, o4⟩; have HG := Lib.hid (And.intro o1 (And.intro o2 o3)); clear o1 o2 o3 o4) | (go_at_call 49; refine (HF.out.2.1 _ _ _ HG.out.2.2 HG.out.2.1 HG.out.1).mono ?_; rw [← HT.out]; rintro e w3 ⟨rfl, b3⟩; have HH := Lib.hid b3; clear b3))
            go_ret2
            have e0 : R.found = a := of_decide_eq_true HT.out.symm
            exact ⟨by rw [HF.out.2.2.1, if_pos e0, HF.out.2.2.2.1 e0]; rfl, HF.out.2.2.2.2.trans ((HG.out.2.2.trans (HH.out.mono HG.out.2.2.size)).mono HF.out.2.2.2.2.size)⟩
    · have hne : ((a.length : Int) != (l.length : Int)) = true := by simp; omega
      have HL := Lib.hid hal
      clear hal
      go_wp2_with (go_at_call 104; refine H.out.2.2.1.mono ?_; rintro e w1 ⟨rfl, b1⟩; have B1 := Lib.hid b1; clear b1)
      go_ret2
      exact ver_no (by unfold verE; rw [if_neg (fun h => h H.out.2.1.symm), if_pos HL.out]) (by decide) (H.out.1.trans (B1.out.mono H.out.1.size))
  · have hnb : (er != 0) = true := by simp [h0]
    have HC := Lib.hid h0
    clear h0
    go_wp2_with (go_at_call 104; refine H.out.2.2.1.mono ?_; rintro e w1 ⟨rfl, b1⟩; have B1 := Lib.hid b1; clear b1)
    go_ret2
    exact ver_no (by unfold verE; rw [if_pos (by rw [← H.out.2.1]; exact HC.out), H.out.2.1]) HC.out (H.out.1.trans (B1.out.mono H.out.1.size))
end Go.Proofs.Ythmldeningpjbaa
/- Drawn: a function that yields numbers below a bound, one after the other -/
namespace Go.Proofs.Ythmldeningpjbaa
open Go Go.RowKit Sp

def byts (l : List Int) : List Value := l.map (Value.int .u8)
theorem byts_get {l : List Int} {k : Nat} (h : k < l.length) : (byts l)[k]? = some (.int .u8 (l.getD k 0)) := by simp [byts, h]
/-- the bytes l, k of which have been drawn; ib, lb: the closure's cells -/
structure DrawSt (w : World) (ib lb : Nat) (A : Option Addr) (c : Nat) (l : List Int) (k : Nat) : Prop where
  cnt : w.heap[ib]? = some (.cells #[.int .i64 (min k l.length : Nat)] 3 (0, 0))
  lst : w.heap[lb]? = some (.cells #[.slice A l.length c] 22 (0, 0))
  rd : Rd w 1 A l.length (byts l)
theorem DrawSt.keep {w w' : World} {ib lb : Nat} {A : Option Addr} {c : Nat} {l : List Int} {k : Nat} (h : DrawSt w ib lb A c l k) {S : List Nat} (hk : Keep S w w') (h1 : ib ∉ S) (h2 : lb ∉ S) (h3 : 0 < l.length → ∀ b off, A = some ⟨b, off, none⟩ → b ∉ S) : DrawSt w' ib lb A c l k :=
  ⟨(hk.block _ (heap_lt h.cnt) h1).trans h.cnt, (hk.block _ (heap_lt h.lst) h2).trans h.lst, h.rd.1, fun h0 => (hk.rd h.rd (h3 h0)).2 h0⟩
def draw (l : List Int) (k : Nat) (n : Int) : Int := l.getD k 0 % n
theorem draw_range {l : List Int} (k : Nat) {n : Int} (hn : 0 < n) : 0 ≤ draw l k n ∧ draw l k n < n := ⟨Int.emod_nonneg _ (by omega), Int.emod_lt_of_pos _ hn⟩

def Bytes (l : List Int) : Prop := ∀ x ∈ l, 0 ≤ x ∧ x ≤ 255
theorem Bytes.get {l : List Int} (h : Bytes l) (k : Nat) : 0 ≤ l.getD k 0 ∧ l.getD k 0 ≤ 255 := by
  rw [List.getD_eq_getElem?_getD]
  cases hk : l[k]? with
  | none => simp
  | some x => exact h x (List.mem_of_getElem? hk)

def NextPost (w : World) (ib lb : Nat) (A : Option Addr) (c : Nat) (l : List Int) (k : Nat) (n : Int) (e : Ending) (w' : World) : Prop :=
  e = .returned (.int .i64 (draw l k n)) ∧ DrawSt w' ib lb A c l (k + 1) ∧ Keep [ib] w w' ∧ w'.heap.size = w.heap.size

set_option maxHeartbeats 1000000 in
theorem next_any (ib lb : Nat) (A : Option Addr) (c : Nat) (l : List Int) (k : Nat) (n : Int) (w : World) (h : DrawSt w ib lb A c l k) (hl : Bytes l) (hm : l.length ≤ 9223372036854775806) (hne : ib ≠ lb) (hA : 0 < l.length → ∀ b off, A = some ⟨b, off, none⟩ → b ≠ ib) (hn : 0 < n ∧ n ≤ 1000) :
    Calls Try.prog 70 #[.int .i64 n, .pointer (some ⟨ib, 0, none⟩), .pointer (some ⟨lb, 0, none⟩)] w (NextPost w ib lb A c l k n) := by
  have ci : w.cell? ⟨ib, 0, none⟩ = some (.int .i64 (min k l.length : Nat)) := (cell_of_heap h.cnt 0).trans rfl
  have cl : w.cell? ⟨lb, 0, none⟩ = some (.slice A l.length c) := (cell_of_heap h.lst 0).trans rfl
  have fi := frozen_of_heap h.cnt 0
  have zi := heap_lt h.cnt
  have zl := heap_lt h.lst
  obtain ⟨hn1, hn2⟩ := hn
  have H := Lib.hid h
  by_cases hk : k < l.length
  · obtain ⟨b, off, u, rfl, hb, hu, hc⟩ := h.rd.one hk
    rw [byts_get hk] at hu
    obtain rfl : Value.int .u8 (l.getD k 0) = u := by injection hu
    obtain ⟨x, hx⟩ : ∃ x, x = l.getD k 0 := ⟨_, rfl⟩
    have hxr := hl.get k
    rw [← hx] at hc hxr
    have hbi : b ≠ ib := hA (by omega) b off rfl
    have e1 : (min k l.length : Nat) = k := by omega
    rw [e1] at ci
    have e2 := World.cell?_setCell_same w ⟨ib, 0, none⟩ (.int .i64 ((k : Int) + 1)) ci
    have HX := Lib.hid hx
    clear h hx hu e1
    go_enter Try.func70, Try.ntmps70
    go_wp2
    go_ret
    have K : Keep [ib] w (w.setCell ⟨ib, 0, none⟩ (.int .i64 ((k : Int) + 1))) := (Keep.refl _ _).setCell (.inl (by simp)) _
    refine ⟨by rw [draw, ← HX.out]; rfl, ⟨?_, (K.block _ zl (by simp; omega)).trans H.out.lst, K.rd H.out.rd fun b' off' e => by have := hA (by omega) b' off' e; simpa using this⟩, K, by simp [World.setCell]⟩
    rw [heap_set H.out.cnt, show min (k + 1) l.length = k + 1 from by omega]
    rfl
  · have e1 : (min k l.length : Nat) = l.length := by omega
    rw [e1] at ci
    have HE := Lib.hid e1
    clear h e1
    go_enter Try.func70, Try.ntmps70
    go_wp2
    go_ret
    refine ⟨?_, ⟨?_, H.out.lst, H.out.rd⟩, Keep.refl _ _, rfl⟩
    · rw [draw, List.getD_eq_getElem?_getD, List.getElem?_eq_none (by omega)]; simp
    · rw [H.out.cnt, show min (k + 1) l.length = min k l.length from by omega]

theorem Drawn_any (A : Option Addr) (c : Nat) (l : List Int) (w : World) (hr : Rd w 1 A l.length (byts l)) :
    Calls Try.prog 16 #[.slice A l.length c] w fun e w' => e = .returned (.func (.func 70) #[] #[.pointer (some ⟨w.heap.size + 1, 0, none⟩), .pointer (some ⟨w.heap.size, 0, none⟩)]) ∧ DrawSt w' (w.heap.size + 1) w.heap.size A c l 0 ∧ Below w.heap.size w w' ∧ w'.heap.size = w.heap.size + 2 := by
  go_enter Try.func16, Try.ntmps16
  go_wp2
  go_ret
  have b : Below w.heap.size w ((w.alloc (.cells #[.slice A l.length c] 22)).alloc (.cells #[.int .i64 0] 3)) := ((Below.refl _ _).alloc (Nat.le_refl _) _).alloc (by simp) _
  refine ⟨rfl, ⟨?_, heap_alloc' (heap_alloc_new _ _) _, hr.below b⟩, b, by simp⟩
  have := heap_alloc_new (w.alloc (.cells #[.slice A l.length c] 22)) (.cells #[.int .i64 0] 3)
  rw [World.size_alloc] at this
  rw [this]; simp
end Go.Proofs.Ythmldeningpjbaa
/- a function that yields numbers: what a call of it gives, and what stays -/
namespace Go.Proofs.Ythmldeningpjbaa
open Go Go.RowKit Go.Lib Sp
set_option linter.unusedVariables false

/-- a function that yields numbers; its bytes lie below D, its cells from D on -/
def NxS (D : Nat) (w : World) (ib lb : Nat) : Prop := ∃ A c l k, DrawSt w ib lb A c l k ∧ Bytes l ∧ l.length ≤ 9223372036854775806 ∧ ib ≠ lb ∧ D ≤ ib ∧ D ≤ lb ∧ (0 < l.length → ∀ b off, A = some ⟨b, off, none⟩ → b < D)
theorem NxS.keep {D : Nat} {w w' : World} {ib lb : Nat} (h : NxS D w ib lb) {S : List Nat} (hk : Keep S w w') (hS : ∀ x ∈ S, D ≤ x ∧ x ≠ ib ∧ x ≠ lb) : NxS D w' ib lb := by
  obtain ⟨A, c, l, k, h1, h2, h3, h4, h5, h6, h7⟩ := h
  exact ⟨A, c, l, k, h1.keep hk (fun e => (hS _ e).2.1 rfl) (fun e => (hS _ e).2.2 rfl) (fun h0 b off e hm => by have := h7 h0 b off e; have := (hS _ hm).1; omega), h2, h3, h4, h5, h6, h7⟩
theorem NxS.below {D : Nat} {w w' : World} {ib lb : Nat} (h : NxS D w ib lb) (hb : Below w.heap.size w w') : NxS D w' ib lb := h.keep (S := []) (Keep.of_below hb) (by simp)
theorem NxS.lt {D : Nat} {w : World} {ib lb : Nat} (h : NxS D w ib lb) : ib < w.heap.size ∧ lb < w.heap.size ∧ D ≤ ib ∧ D ≤ lb ∧ ib ≠ lb := by
  obtain ⟨A, c, l, k, h1, h2, h3, h4, h5, h6, h7⟩ := h
  exact ⟨heap_lt h1.cnt, heap_lt h1.lst, h5, h6, h4⟩
def SomePost (D : Nat) (w : World) (ib lb : Nat) (n : Int) (e : Ending) (w' : World) : Prop := ∃ x : Int, e = .returned (.int .i64 x) ∧ (0 ≤ x ∧ x < n) ∧ NxS D w' ib lb ∧ Keep [ib] w w' ∧ w'.heap.size = w.heap.size
theorem next_some {D : Nat} {ib lb : Nat} (n : Int) {w : World} (h : NxS D w ib lb) (hn : 0 < n ∧ n ≤ 1000) :
    Calls Try.prog 70 #[.int .i64 n, .pointer (some ⟨ib, 0, none⟩), .pointer (some ⟨lb, 0, none⟩)] w (SomePost D w ib lb n) := by
  obtain ⟨A, c, l, k, h1, h2, h3, h4, h5, h6, h7⟩ := h
  refine (next_any ib lb A c l k n w h1 h2 h3 h4 (fun h0 b off e => by have := h7 h0 b off e; omega) hn).mono ?_
  rintro e w' ⟨rfl, q1, q2, q3⟩
  exact ⟨_, rfl, draw_range k hn.1, ⟨A, c, l, k + 1, q1, h2, h3, h4, h5, h6, h7⟩, q2, q3⟩
def DrawnPost (D : Nat) (w : World) (e : Ending) (w' : World) : Prop := ∃ ib lb, e = .returned (.func (.func 70) #[] #[.pointer (some ⟨ib, 0, none⟩), .pointer (some ⟨lb, 0, none⟩)]) ∧ NxS D w' ib lb ∧ w.heap.size ≤ ib ∧ w.heap.size ≤ lb ∧ Below w.heap.size w w'
theorem Drawn_some (D : Nat) (A : Option Addr) (c : Nat) (l : List Int) (w : World) (hr : Rd w 1 A l.length (byts l)) (hb : Bytes l) (hl : l.length ≤ 9223372036854775806) (hD : D ≤ w.heap.size) (hA : 0 < l.length → ∀ b off, A = some ⟨b, off, none⟩ → b < D) :
    Calls Try.prog 16 #[.slice A l.length c] w (DrawnPost D w) := by
  refine (Drawn_any A c l w hr).mono ?_
  rintro e w' ⟨rfl, h1, h2, h3⟩
  exact ⟨_, _, rfl, ⟨A, c, l, 0, h1, hb, hl, by omega, by omega, hD, hA⟩, by omega, Nat.le_refl _, h2⟩
end Go.Proofs.Ythmldeningpjbaa
