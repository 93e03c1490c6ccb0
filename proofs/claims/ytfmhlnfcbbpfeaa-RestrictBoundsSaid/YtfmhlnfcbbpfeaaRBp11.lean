/- polynyalaw08: long, Policy, same -/
import Derived.Test.YtfmhlnfcbbpfeaaRBp10
import Derived.Test.YtfmhlnfcbbpfeaaRBp1
import Derived.Deep.RegionHeld3
import Derived.Test.YtfmhlnfcbbpfeaaRBp6
import Derived.Test.YtfmhlnfcbbpfeaaRBp9
import Derived.Test.YtfmhlnfcbbpfeaaRBp2
set_option linter.unusedVariables false
namespace Go.Proofs.Ytfmhlnfcbbpfeaa
open Go Go.RowKit Sp
set_option linter.unusedVariables false

def longB (n d : Int) : Bool := decide (20 < n) || (decide (60 < d) && decide (d ≤ 400)) || decide (420 < d)
set_option maxRecDepth 100000 in
set_option maxHeartbeats 1000000 in
theorem long_any (v1 v2 v3 v4 : Value) (As : Option Addr) (n cs : Nat) (d : Int) (w : World) :
    Calls Try.prog 29 #[.agg #[.slice As n cs, v1, v2, v3, v4], .int .i64 d] w fun e w' => e = .returned (.bool (longB n d)) ∧ Below w.heap.size w w' := by
  obtain ⟨r, hr⟩ : ∃ r, r = longB n d := ⟨_, rfl⟩
  rw [← hr]
  have HR := Lib.hid hr
  clear hr
  by_cases h1 : 20 < n
  case' pos => have h1' : (20 : Int) < (n : Int) := by omega
  case' neg => have h1' : ¬ (20 : Int) < (n : Int) := by omega
  all_goals by_cases h2 : (60 : Int) < d
  all_goals by_cases h3 : d ≤ (400 : Int)
  all_goals by_cases h4 : (420 : Int) < d
  all_goals
    first
    | (exfalso; omega)
    | (go_enter Try.func29, Try.ntmps29
       go_wp2_with fail
       go_ret
       refine ⟨?_, (Below.refl _ _).alloc (Nat.le_refl _) _⟩
       rw [HR.out]
       simp [longB, h2, h3, h4] <;> omega)

theorem infoRStp : (Try.prog.info? 161).map (fun i => (i.zero, i.size, i.bytes)) = some (some (.agg #[.int .i64 0, .int .i64 0, .int .i64 0, .int .i64 0]), 4, 32) := by kernel_rfl

/-- what the loop of Policy keeps -/
structure PoSt (W wr : World) (ob : Nat) (p : Pol) (Ao : Option Addr) (k co : Nat) (q : List Nat) : Prop where
  blk : wr.heap[ob]? = some (.cells #[.slice Ao k co, .int .i64 p.hold, .int .i64 p.calm, .int .i64 p.notice, .int .i64 p.grace] 70 (0, 0))
  own : OwnS wr 161 4 Ao k co (stcs (p.steps.take k)) q
  new : ∀ g ∈ q, W.heap.size ≤ g
  keep : Keep [ob] W wr

theorem polStcs_append (l m : List Stp) : stcs (l ++ m) = stcs l ++ stcs m := by simp [stcs]
theorem PoSt.step {W wr w5 : World} {ob : Nat} {p : Pol} {Ao : Option Addr} {k co : Nat} {q : List Nat} (h : PoSt W wr ob p Ao k co q) (hob : ob < W.heap.size) {o1 o2 : Obj} {g c' : Nat} (hk : k < p.steps.length)
    (h1 : OwnS w5 161 4 (some ⟨g, 0, none⟩) (k + 1) c' (stcs (p.steps.take k) ++ stc p.steps[k]) [g]) (h2 : g ∈ q ∨ ((wr.alloc o1).alloc o2).heap.size = g) (h4 : Keep q ((wr.alloc o1).alloc o2) w5) :
    w5.heap[ob]? = some (.cells #[.slice Ao k co, .int .i64 p.hold, .int .i64 p.calm, .int .i64 p.notice, .int .i64 p.grace] 70 (0, 0)) ∧
    PoSt W (w5.setCell ⟨ob, 0, none⟩ (.slice (some ⟨g, 0, none⟩) (k + 1) c')) ob p (some ⟨g, 0, none⟩) (k + 1) c' [g] := by
  have hW := h.keep.size
  have hobq : ob ∉ q := fun hm => by have := h.new _ hm; omega
  have e5 : w5.heap[ob]? = some (.cells #[.slice Ao k co, .int .i64 p.hold, .int .i64 p.calm, .int .i64 p.notice, .int .i64 p.grace] 70 (0, 0)) :=
    (h4.block ob (by have := heap_lt h.blk; simp; omega) hobq).trans (heap_alloc' (heap_alloc' h.blk _) _)
  have hg : W.heap.size ≤ g := by
    rcases h2 with h2 | h2
    · exact h.new _ h2
    · simp at h2; omega
  refine ⟨e5, heap_set e5 0 _, ?_, fun g' hg' => by rw [List.mem_singleton.1 hg']; exact hg, ?_⟩
  · rw [List.take_succ_eq_append_getElem hk, polStcs_append]
    have : stcs [p.steps[k]] = stc p.steps[k] := by simp [stcs]
    rw [this]
    exact h1.setCell (by simp; omega) _
  · exact (((h.keep.alloc _).alloc _).trans h4 (fun y hy => .inr (h.new _ hy))).setCell (.inl (by simp)) _

set_option maxRecDepth 100000 in
set_option maxHeartbeats 2000000 in
theorem policy_any (As : Option Addr) (cs : Nat) (p : Pol) (w : World) (hp : PolV w As cs p) (hl : p.steps.length ≤ 1000) :
    Calls Try.prog 30 #[.agg #[.slice As p.steps.length cs, .int .i64 p.hold, .int .i64 p.calm, .int .i64 p.notice, .int .i64 p.grace]] w fun e w' => ∃ A c q, e = .returned (.agg #[.slice A p.steps.length c, .int .i64 p.hold, .int .i64 p.calm, .int .i64 p.notice, .int .i64 p.grace]) ∧
      OwnS w' 161 4 A p.steps.length c (stcs p.steps) q ∧ (∀ g ∈ q, w.heap.size ≤ g) ∧ Below w.heap.size w w' := by
  obtain ⟨i0, hi, hz0, hz1, hz2⟩ := info_parts infoRStp
  obtain ⟨W, hW⟩ : ∃ W, W = (((w.alloc (.cells #[.slice As p.steps.length cs, .int .i64 p.hold, .int .i64 p.calm, .int .i64 p.notice, .int .i64 p.grace] 25)).alloc (.cells #[.slice none 0 0, .int .i64 0, .int .i64 0, .int .i64 0, .int .i64 0] 70)).alloc (.cells #[.slice none 0 0, .int .i64 p.hold, .int .i64 p.calm, .int .i64 p.notice, .int .i64 p.grace] 70)) := ⟨_, rfl⟩
  have bW : Below w.heap.size w W := by rw [hW]; exact (((Below.refl _ _).alloc (Nat.le_refl _) _).alloc (by simp) _).alloc (by simp; omega) _
  obtain ⟨rb, hrb⟩ : ∃ rb, rb = w.heap.size + 1 := ⟨_, rfl⟩
  obtain ⟨ob, hob⟩ : ∃ ob, ob = w.heap.size + 1 + 1 := ⟨_, rfl⟩
  have zW : W.heap.size = ob + 1 := by rw [hW, hob]; simp
  have eo : W.heap[ob]? = some (.cells #[.slice none 0 0, .int .i64 p.hold, .int .i64 p.calm, .int .i64 p.notice, .int .i64 p.grace] 70 (0, 0)) := by
    rw [hW, hob]
    have := heap_alloc_new ((w.alloc (.cells #[.slice As p.steps.length cs, .int .i64 p.hold, .int .i64 p.calm, .int .i64 p.notice, .int .i64 p.grace] 25)).alloc (.cells #[.slice none 0 0, .int .i64 0, .int .i64 0, .int .i64 0, .int .i64 0] 70)) (.cells #[.slice none 0 0, .int .i64 p.hold, .int .i64 p.calm, .int .i64 p.notice, .int .i64 p.grace] 70)
    simpa using this
  have er : W.heap[rb]? = some (.cells #[.slice none 0 0, .int .i64 0, .int .i64 0, .int .i64 0, .int .i64 0] 70 (0, 0)) := by
    rw [hW, hrb]
    have := heap_alloc_new (w.alloc (.cells #[.slice As p.steps.length cs, .int .i64 p.hold, .int .i64 p.calm, .int .i64 p.notice, .int .i64 p.grace] 25)) (.cells #[.slice none 0 0, .int .i64 0, .int .i64 0, .int .i64 0, .int .i64 0] 70)
    rw [World.size_alloc] at this
    exact heap_alloc' this _
  have hbo : w.heap.size < rb ∧ rb < ob := by omega
  have HP := Lib.hid (And.intro hp (And.intro bW (And.intro eo (And.intro er (And.intro zW hbo)))))
  clear hp bW eo er zW hbo
  go_enter Try.func30, Try.ntmps30
  go_wp2_with fail
  rw [← hW, ← hob, ← hrb]
  clear hW hob hrb
  go_loopg [18] (p.steps.length) (fun g i wr => ∃ (k : Nat) (Ao : Option Addr) (co : Nat) (q : List Nat), g + k = p.steps.length ∧ i = .int .i64 k ∧ PoSt W wr ob p Ao k co q)
  case atStart => exact ⟨0, none, 0, [], rfl, rfl, HP.out.2.2.1, by simpa [stcs] using OwnS.nil _ _ _, by simp, Keep.refl _ _⟩
  case round =>
    obtain ⟨k, Ao, co, q, hk, rfl, hst⟩ := hrel
    have o0 := (cell_of_heap hst.blk 0).trans rfl
    have zo := heap_lt hst.blk
    by_cases hlt : k < p.steps.length
    · have rdw := (HP.out.1.2.2.below HP.out.2.1)
      have rdr := hst.keep.rd rdw (fun b off e => by
        obtain ⟨b', off', e', hb', _⟩ := HP.out.1.2.2.2 (by omega)
        rw [e] at e'; injection e' with e'; injection e' with e1
        have := HP.out.2.2.2.2.2
        simp; omega)
      obtain ⟨b, off, rfl, hb, hc⟩ := rdr.2 (by omega)
      obtain ⟨s0, s1, s2, s3⟩ := stcs_get hlt
      have c0 := hc _ _ s0
      have c1 : wr.cell? ⟨b, off + k * 4 + 1, none⟩ = _ := hc _ _ s1
      have c2 : wr.cell? ⟨b, off + k * 4 + 2, none⟩ = _ := hc _ _ s2
      have c3 : wr.cell? ⟨b, off + k * 4 + 3, none⟩ = _ := hc _ _ s3
      obtain ⟨x, hx⟩ : ∃ x, x = p.steps[k] := ⟨_, rfl⟩
      rw [← hx] at c0 c1 c2 c3
      have n2 : (k : Int) < (p.steps.length : Int) := by omega
      have HS := Lib.hid (And.intro hst hx)
      clear hc s0 s1 s2 s3 rdr rdw hst hx
      go_wp2_with (at_builtin
                   refine wpList_append_S (size := 4) rfl (.tmp 23) (.tmp 25) 68 rfl i0 _ 32 Try.underlying68 hi hz0 hz1 (by decide) hz2 rfl (A := Ao) (n := k) (c := co) (xs := stcs (p.steps.take k)) (fp := q) (by simp [Act.eval]) ⟨wr.heap.size + 1, 0, none⟩ (by simp [Act.eval]) [.int .i64 x.cls, .int .i64 x.ton, .int .i64 x.up, .int .i64 x.dn] ((HS.out.1.own.alloc _).alloc _) rfl ?_ (by simp [Value.oneCell']) (by omega) (by omega) ?_
                   · intro j v hv
                     rw [show (⟨wr.heap.size + 1, 0, none⟩ : Addr).add j = ⟨wr.heap.size + 1, j, none⟩ from by simp [Addr.add]; omega]
                     have := World.cell?_alloc_new (wr.alloc (.cells #[.int .i64 x.cls, .int .i64 x.ton, .int .i64 x.up, .int .i64 x.dn] 74)) #[.int .i64 x.cls, .int .i64 x.ton, .int .i64 x.up, .int .i64 x.dn] 161 j
                     rw [World.size_alloc] at this
                     rw [this]
                     simpa using hv
                   intro g c' w5 h1 h2 h3 h4
                   have hq := HS.out.1.step (by have := HP.out.2.2.2.2.1; omega) hlt (by rw [← HS.out.2]; exact h1) h2 h4
                   have d0 : w5.cell? ⟨ob, 0, none⟩ = some (.slice Ao k co) := (cell_of_heap hq.1 0).trans rfl
                   have d1 := frozen_of_heap hq.1 0
                   have HQ := Lib.hid hq.2
                   clear h1 h2 h3 h4 hq)
      go_roundg (gk - 1)
      case measure => omega
      case rel => exact ⟨k + 1, some ⟨g, 0, none⟩, c', [g], by omega, by go_num, HQ.out⟩
    · obtain rfl : k = p.steps.length := by omega
      have o1 := (cell_of_heap hst.blk 1).trans rfl
      have o2 := (cell_of_heap hst.blk 2).trans rfl
      have o3 := (cell_of_heap hst.blk 3).trans rfl
      have o4 := (cell_of_heap hst.blk 4).trans rfl
      have erw : wr.heap[rb]? = some (.cells #[.slice none 0 0, .int .i64 0, .int .i64 0, .int .i64 0, .int .i64 0] 70 (0, 0)) := (hst.keep.block rb (heap_lt HP.out.2.2.2.1) (by have := HP.out.2.2.2.2.2; simp; omega)).trans HP.out.2.2.2.1
      have r0 := (cell_of_heap erw 0).trans rfl
      have r1 := (cell_of_heap erw 1).trans rfl
      have r2 := (cell_of_heap erw 2).trans rfl
      have r3 := (cell_of_heap erw 3).trans rfl
      have r4 := (cell_of_heap erw 4).trans rfl
      have f0 := frozen_of_heap erw 0
      have f1 := frozen_of_heap erw 1
      have f2 := frozen_of_heap erw 2
      have f3 := frozen_of_heap erw 3
      have f4 := frozen_of_heap erw 4
      have zr := heap_lt erw
      have HS := Lib.hid (And.intro hst erw)
      clear hst erw
      go_wp2_with fail
      have ew := heap_set (heap_set (heap_set (heap_set (heap_set HS.out.2 0 (.slice Ao p.steps.length co)) 1 (.int .i64 p.hold)) 2 (.int .i64 p.calm)) 3 (.int .i64 p.notice)) 4 (.int .i64 p.grace)
      have x0 := (cell_of_heap ew 0).trans rfl
      have x1 := (cell_of_heap ew 1).trans rfl
      have x2 := (cell_of_heap ew 2).trans rfl
      have x3 := (cell_of_heap ew 3).trans rfl
      have x4 := (cell_of_heap ew 4).trans rfl
      have hrq : rb ∉ q := fun hm => by have := HS.out.1.new _ hm; have := HP.out.2.2.2.2; omega
      refine bodyPost_ret (v := .agg #[.slice Ao p.steps.length co, .int .i64 p.hold, .int .i64 p.calm, .int .i64 p.notice, .int .i64 p.grace]) (by simp [results, Try.results30, go_sem, x0, x1, x2, x3, x4]) rfl ?_
      have hown := HS.out.1.own
      rw [List.take_of_length_le (Nat.le_refl _)] at hown
      have hz := HP.out.2.2.2.2
      have hbs := HP.out.2.1.size
      refine ⟨Ao, co, q, rfl, ((((hown.setCell (by exact hrq) _).setCell (by exact hrq) _).setCell (by exact hrq) _).setCell (by exact hrq) _).setCell (by exact hrq) _, fun g hg => by have := HS.out.1.new _ hg; omega, ?_⟩
      have hB : Below w.heap.size w wr := HP.out.2.1.trans (HS.out.1.keep.below hbs (by simp; omega))
      exact ((((hB.setCell (by simp; omega) _).setCell (by simp; omega) _).setCell (by simp; omega) _).setCell (by simp; omega) _).setCell (by simp; omega) _

set_option maxRecDepth 100000 in
set_option maxHeartbeats 2000000 in
theorem same_any (As : Option Addr) (cs : Nat) (p : Pol) (Ar : Option Addr) (cr : Nat) (w : World) (hp : PolV w As cs p) (hr : Rd w 4 Ar p.steps.length (stcs p.steps)) (hl : p.steps.length ≤ 1000) :
    Calls Try.prog 45 #[.agg #[.slice As p.steps.length cs, .int .i64 p.hold, .int .i64 p.calm, .int .i64 p.notice, .int .i64 p.grace], .agg #[.slice Ar p.steps.length cr, .int .i64 p.hold, .int .i64 p.calm, .int .i64 p.notice, .int .i64 p.grace]] w fun e w' => e = .returned (.bool true) ∧ Below w.heap.size w w' := by
  obtain ⟨W0, hW0⟩ : ∃ W, W = w.alloc (.cells #[.slice As p.steps.length cs, .int .i64 p.hold, .int .i64 p.calm, .int .i64 p.notice, .int .i64 p.grace] 25) := ⟨_, rfl⟩
  obtain ⟨W, hW⟩ : ∃ W, W = W0.alloc (.cells #[.slice Ar p.steps.length cr, .int .i64 p.hold, .int .i64 p.calm, .int .i64 p.notice, .int .i64 p.grace] 70) := ⟨_, rfl⟩
  obtain ⟨ab, hab⟩ : ∃ ab, ab = w.heap.size := ⟨_, rfl⟩
  obtain ⟨bb, hbb⟩ : ∃ bb, bb = w.heap.size + 1 := ⟨_, rfl⟩
  have ea : W.heap[ab]? = some (.cells #[.slice As p.steps.length cs, .int .i64 p.hold, .int .i64 p.calm, .int .i64 p.notice, .int .i64 p.grace] 25 (0, 0)) := by rw [hW, hW0, hab]; exact heap_alloc' (heap_alloc_new _ _) _
  have eb : W.heap[bb]? = some (.cells #[.slice Ar p.steps.length cr, .int .i64 p.hold, .int .i64 p.calm, .int .i64 p.notice, .int .i64 p.grace] 70 (0, 0)) := by
    rw [hW, hbb]
    have := heap_alloc_new W0 (.cells #[.slice Ar p.steps.length cr, .int .i64 p.hold, .int .i64 p.calm, .int .i64 p.notice, .int .i64 p.grace] 70)
    rwa [show W0.heap.size = w.heap.size + 1 from by rw [hW0]; simp] at this
  have bW : Below w.heap.size w W := by rw [hW, hW0]; exact ((Below.refl _ _).alloc (Nat.le_refl _) _).alloc (by simp) _
  have k1 := policy_any As cs p W ⟨hp.1, hp.2.1, hp.2.2.below bW⟩ hl
  have a0 := (cell_of_heap ea 0).trans rfl
  have a1 := (cell_of_heap ea 1).trans rfl
  have a2 := (cell_of_heap ea 2).trans rfl
  have a3 := (cell_of_heap ea 3).trans rfl
  have a4 := (cell_of_heap ea 4).trans rfl
  have za := heap_lt ea
  have HP := Lib.hid (And.intro bW (And.intro ea (And.intro eb (And.intro k1 (hr.below bW)))))
  clear hp hr ea eb bW k1
  go_enter Try.func45, Try.ntmps45
  go_upto_region 1 with fail
  rw [← hbb, ← hab, ← hW0, ← hW]
  clear hW hW0 hab hbb
  go_wp2_with fail
  refine HP.out.2.2.2.1.mono ?_
  rintro e w1 ⟨A, c, q, rfl, h1, h2, h3⟩
  clear a0 a1 a2 a3 a4 za
  have ea := (h3.block _ (heap_lt HP.out.2.1)).trans HP.out.2.1
  have eb := (h3.block _ (heap_lt HP.out.2.2.1)).trans HP.out.2.2.1
  have a1 := (cell_of_heap ea 1).trans rfl
  have a2 := (cell_of_heap ea 2).trans rfl
  have a3 := (cell_of_heap ea 3).trans rfl
  have a4 := (cell_of_heap ea 4).trans rfl
  have za := heap_lt ea
  have b0 := (cell_of_heap eb 0).trans rfl
  have b1 := (cell_of_heap eb 1).trans rfl
  have b2 := (cell_of_heap eb 2).trans rfl
  have b3 := (cell_of_heap eb 3).trans rfl
  have b4 := (cell_of_heap eb 4).trans rfl
  have zb := heap_lt eb
  have bx : ∀ o, Below w1.heap.size w1 (w1.alloc o) := fun o => (Below.refl _ _).alloc (Nat.le_refl _) _
  have k2 := fun o => eqRStp_same A c p.steps Ar cr (w1.alloc o) (h1.rd.below (bx o)) ((HP.out.2.2.2.2.below h3).below (bx o)) (by omega)
  have H1 := Lib.hid (And.intro k2 (HP.out.1.trans (h3.mono HP.out.1.size)))
  have HE := Lib.hid (And.intro ea eb)
  clear ea eb h1 h2 h3 bx k2
  go_wp2_with fail
  refine (H1.out.1 _).mono ?_
  rintro e w2 ⟨rfl, hB⟩
  have hB1 : Below w1.heap.size w1 w2 := ((Below.refl w1.heap.size w1).alloc (Nat.le_refl _) _).trans (hB.mono (by simp))
  clear a1 a2 a3 a4 za b0 b1 b2 b3 b4 zb
  have ea := (hB1.block _ (heap_lt HE.out.1)).trans HE.out.1
  have eb := (hB1.block _ (heap_lt HE.out.2)).trans HE.out.2
  have a1 := (cell_of_heap ea 1).trans rfl
  have a2 := (cell_of_heap ea 2).trans rfl
  have a3 := (cell_of_heap ea 3).trans rfl
  have a4 := (cell_of_heap ea 4).trans rfl
  have b1 := (cell_of_heap eb 1).trans rfl
  have b2 := (cell_of_heap eb 2).trans rfl
  have b3 := (cell_of_heap eb 3).trans rfl
  have b4 := (cell_of_heap eb 4).trans rfl
  have HB := Lib.hid (H1.out.2.trans (hB1.mono H1.out.2.size))
  clear ea eb hB hB1
  go_wp2_with fail
  go_ret
  exact ⟨by simp, HB.out⟩
end Go.Proofs.Ytfmhlnfcbbpfeaa
/- ice: numbers within their limits -/
namespace Go.Proofs.Ytfmhlnfcbbpfeaa
open Go Go.RowKit Sp
set_option linter.unusedVariables false

theorem icein_any (n lo hi : Int) (w : World) :
    Calls Try.prog 107 #[.int .i64 n, .int .i64 lo, .int .i64 hi] w fun e w' => e = .returned (.bool (within n lo hi)) ∧ w = w' := by
  go_enter Try.func107, Try.ntmps107
  go_wp2
  all_goals (go_ret; refine ⟨?_, rfl⟩; simp [within]; try omega)

theorem most_any (w : World) :
    Calls Try.prog 108 #[] w fun e w' => e = .returned (.agg #[.int .i64 100, .int .i64 400, .int .i64 100, .int .i64 3]) ∧ Below w.heap.size w w' := by
  go_enter Try.func108, Try.ntmps108
  go_wp2_with fail
  refine bodyPost_ret (v := .agg #[.int .i64 100, .int .i64 400, .int .i64 100, .int .i64 3]) (by simp [results, Try.results108, go_sem]) rfl ⟨rfl, (Below.refl _ _).alloc (Nat.le_refl _) _⟩

/-- an ice -/
structure Ice where
  con : Int
  thk : Int
  rid : Int
  prs : Int
deriving DecidableEq, Inhabited
theorem numbers_any (x : Ice) (w : World) :
    Calls Try.prog 104 #[.agg #[.int .i64 x.con, .int .i64 x.thk, .int .i64 x.rid, .int .i64 x.prs]] w fun e w' => e = .returned (.agg #[.int .i64 x.con, .int .i64 x.thk, .int .i64 x.rid, .int .i64 x.prs]) ∧ Below w.heap.size w w' := by
  go_enter Try.func104, Try.ntmps104
  go_wp2_with fail
  exact bodyPost_ret (v := .agg #[.int .i64 x.con, .int .i64 x.thk, .int .i64 x.rid, .int .i64 x.prs]) (by simp [results, Try.results104, go_sem]) rfl ⟨rfl, ((Below.refl _ _).alloc (Nat.le_refl _) _).alloc (by simp) _⟩

theorem most_index (w : World) :
    ((Instr.index 174 (.agg #[.int .i64 100, .int .i64 400, .int .i64 100, .int .i64 3]) (.int .i64 0)).run Try.prog w = .ok (.int .i64 100) w ∧ (Instr.index 174 (.agg #[.int .i64 100, .int .i64 400, .int .i64 100, .int .i64 3]) (.int .i64 1)).run Try.prog w = .ok (.int .i64 400) w) ∧
    ((Instr.index 174 (.agg #[.int .i64 100, .int .i64 400, .int .i64 100, .int .i64 3]) (.int .i64 2)).run Try.prog w = .ok (.int .i64 100) w ∧ (Instr.index 174 (.agg #[.int .i64 100, .int .i64 400, .int .i64 100, .int .i64 3]) (.int .i64 3)).run Try.prog w = .ok (.int .i64 3) w) := by
  have u3 := Try.underlying3
  have a3 := Try.isAgg3
  have z3 := Try.sizeOf3
  have u4 := Try.underlying174
  simp [Instr.index, asIntOf, run_underlying u4, part, isAgg, run_underlying u3, z3, go_sem]

def iceN (x : Ice) : Nat → Int
  | 0 => x.con
  | 1 => x.thk
  | 2 => x.rid
  | _ => x.prs
def mostN : Nat → Int
  | 0 => 100
  | 1 => 400
  | 2 => 100
  | _ => 3
def iceOk (x : Ice) : Bool := within x.con 0 100 && within x.thk 0 400 && within x.rid 0 100 && within x.prs 0 3

set_option maxRecDepth 100000 in
set_option maxHeartbeats 1000000 in
theorem ckice_any (x : Ice) (b : Nat) (k : Nat) (hk : k < 4) (w : World) (hb : w.heap[b]? = some (.cells #[.int .i64 x.con, .int .i64 x.thk, .int .i64 x.rid, .int .i64 x.prs] 174 (0, 0))) :
    Calls Try.prog 106 #[.int .i64 k, .pointer (some ⟨b, 0, none⟩)] w fun e w' => e = .returned (.bool (within (iceN x k) 0 (mostN k))) ∧ Below w.heap.size w w' := by
  have c0 := (cell_of_heap hb 0).trans rfl
  have c1 := (cell_of_heap hb 1).trans rfl
  have c2 := (cell_of_heap hb 2).trans rfl
  have c3 := (cell_of_heap hb 3).trans rfl
  have zb := heap_lt hb
  have KC : ∀ {b o : Nat} {u : Value}, w.cell? ⟨b, o, none⟩ = some u → ∀ w', Below w.heap.size w w' → w'.cell? ⟨b, o, none⟩ = some u := fun h w' hb => (hb.cell (World.block_lt_of_cell? w _ h)).trans h
  have c0' := KC c0
  have c1' := KC c1
  have c2' := KC c2
  have c3' := KC c3
  clear KC hb
  obtain ⟨r, hr⟩ : ∃ r, r = within (iceN x k) 0 (mostN k) := ⟨_, rfl⟩
  have kin : ∀ wx, Calls Try.prog 107 #[.int .i64 (iceN x k), .int .i64 0, .int .i64 (mostN k)] wx fun e w' => e = .returned (.bool r) ∧ wx = w' := fun wx => by rw [hr]; exact icein_any _ _ _ wx
  rw [← hr]
  have H := Lib.hid kin
  clear kin hr
  rcases (by omega : k = 0 ∨ k = 1 ∨ k = 2 ∨ k = 3) with rfl | rfl | rfl | rfl
  · show Calls Try.prog 106 #[.int .i64 0, .pointer (some ⟨b, 0, none⟩)] w _
    go_enter Try.func106, Try.ntmps106
    go_upto_region 1 with fail
    have hx0 := fun w => (most_index w).1.1
    have hx1 := fun w => (most_index w).1.2
    have hx2 := fun w => (most_index w).2.1
    have hx3 := fun w => (most_index w).2.2
    go_region_held3 (fun w' => Below w.heap.size w w') (first | exact (Below.refl _ _).drew | assumption)
      (first
        | (go_at_call 108
           refine (most_any _).mono ?_
           rintro e w2 ⟨rfl, b2⟩
           have B2 : Below w.heap.size w w2 := (Below.refl _ _).drew.trans b2
           clear b2)
        | (go_at_call 107
           refine (H.out _).mono ?_
           rintro e w3 ⟨rfl, rfl⟩))
    have HB := Lib.hid B2
    clear B2
    go_wp2_with fail
    go_ret
    exact ⟨rfl, HB.out⟩
  · show Calls Try.prog 106 #[.int .i64 1, .pointer (some ⟨b, 0, none⟩)] w _
    go_enter Try.func106, Try.ntmps106
    go_upto_region 1 with fail
    have hx0 := fun w => (most_index w).1.1
    have hx1 := fun w => (most_index w).1.2
    have hx2 := fun w => (most_index w).2.1
    have hx3 := fun w => (most_index w).2.2
    go_region_held3 (fun w' => Below w.heap.size w w') (first | exact (Below.refl _ _).drew | assumption)
      (first
        | (go_at_call 108
           refine (most_any _).mono ?_
           rintro e w2 ⟨rfl, b2⟩
           have B2 : Below w.heap.size w w2 := (Below.refl _ _).drew.trans b2
           clear b2)
        | (go_at_call 107
           refine (H.out _).mono ?_
           rintro e w3 ⟨rfl, rfl⟩))
    have HB := Lib.hid B2
    clear B2
    go_wp2_with fail
    go_ret
    exact ⟨rfl, HB.out⟩
  · show Calls Try.prog 106 #[.int .i64 2, .pointer (some ⟨b, 0, none⟩)] w _
    go_enter Try.func106, Try.ntmps106
    go_upto_region 1 with fail
    have hx0 := fun w => (most_index w).1.1
    have hx1 := fun w => (most_index w).1.2
    have hx2 := fun w => (most_index w).2.1
    have hx3 := fun w => (most_index w).2.2
    go_region_held3 (fun w' => Below w.heap.size w w') (first | exact (Below.refl _ _).drew | assumption)
      (first
        | (go_at_call 108
           refine (most_any _).mono ?_
           rintro e w2 ⟨rfl, b2⟩
           have B2 : Below w.heap.size w w2 := (Below.refl _ _).drew.trans b2
           clear b2)
        | (go_at_call 107
           refine (H.out _).mono ?_
           rintro e w3 ⟨rfl, rfl⟩))
    have HB := Lib.hid B2
    clear B2
    go_wp2_with fail
    go_ret
    exact ⟨rfl, HB.out⟩
  · show Calls Try.prog 106 #[.int .i64 3, .pointer (some ⟨b, 0, none⟩)] w _
    go_enter Try.func106, Try.ntmps106
    go_upto_region 1 with fail
    have hx0 := fun w => (most_index w).1.1
    have hx1 := fun w => (most_index w).1.2
    have hx2 := fun w => (most_index w).2.1
    have hx3 := fun w => (most_index w).2.2
    go_region_held3 (fun w' => Below w.heap.size w w') (first | exact (Below.refl _ _).drew | assumption)
      (first
        | (go_at_call 108
           refine (most_any _).mono ?_
           rintro e w2 ⟨rfl, b2⟩
           have B2 : Below w.heap.size w w2 := (Below.refl _ _).drew.trans b2
           clear b2)
        | (go_at_call 107
           refine (H.out _).mono ?_
           rintro e w3 ⟨rfl, rfl⟩))
    have HB := Lib.hid B2
    clear B2
    go_wp2_with fail
    go_ret
    exact ⟨rfl, HB.out⟩
end Go.Proofs.Ytfmhlnfcbbpfeaa
/- cells of a chart -/
namespace Go.Proofs.Ytfmhlnfcbbpfeaa
open Go Go.RowKit Sp
set_option linter.unusedVariables false

/-- a cell of a chart: four spans -/
structure Cel where
  a0 : Int
  a1 : Int
  b0 : Int
  b1 : Int
  c0 : Int
  c1 : Int
  d0 : Int
  d1 : Int
deriving DecidableEq, Inhabited
def cel (x : Cel) : List Value := [.int .i64 x.a0, .int .i64 x.a1, .int .i64 x.b0, .int .i64 x.b1, .int .i64 x.c0, .int .i64 x.c1, .int .i64 x.d0, .int .i64 x.d1]
abbrev celA (x : Cel) : Array Value := #[.int .i64 x.a0, .int .i64 x.a1, .int .i64 x.b0, .int .i64 x.b1, .int .i64 x.c0, .int .i64 x.c1, .int .i64 x.d0, .int .i64 x.d1]
def cels (l : List Cel) : List Value := l.flatMap cel
theorem cels_one (l : List Cel) : ∀ u ∈ cels l, u.oneCell' = true := by
  intro u hu
  simp only [cels, cel, List.mem_flatMap] at hu
  obtain ⟨x, _, hx⟩ := hu
  simp at hx
  rcases hx with rfl | rfl | rfl | rfl | rfl | rfl | rfl | rfl <;> rfl
theorem cels_get {l : List Cel} {k : Nat} (hk : k < l.length) : (cels l)[k*8]? = some (.int .i64 l[k].a0) ∧ (cels l)[k*8+1]? = some (.int .i64 l[k].a1) ∧ (cels l)[k*8+2]? = some (.int .i64 l[k].b0) ∧ (cels l)[k*8+3]? = some (.int .i64 l[k].b1) ∧
    (cels l)[k*8+4]? = some (.int .i64 l[k].c0) ∧ (cels l)[k*8+5]? = some (.int .i64 l[k].c1) ∧ (cels l)[k*8+6]? = some (.int .i64 l[k].d0) ∧ (cels l)[k*8+7]? = some (.int .i64 l[k].d1) := by
  induction l generalizing k with
  | nil => simp at hk
  | cons s l ih =>
    cases k with
    | zero => simp [cels, cel]
    | succ k =>
      have h4 : ∀ j, (cels (s :: l))[8 + j]? = (cels l)[j]? := fun j => by
        simp only [cels, List.flatMap_cons, cel]
        rw [List.getElem?_append_right (by simp)]
        simp
      have e : ∀ j, (k+1)*8 + j = 8 + (k*8 + j) := fun j => by omega
      have e0 : (k+1)*8 = 8 + k*8 := by omega
      have hk' : k < l.length := by simpa using hk
      rw [e, e, e, e, e, e, e, e0, h4, h4, h4, h4, h4, h4, h4, h4]
      simpa using ih hk'
end Go.Proofs.Ytfmhlnfcbbpfeaa
/- How the arguments of RestrictBounds read: ices, charts, cells, spans -/
namespace Go.Proofs.Ytfmhlnfcbbpfeaa
open Go Go.ChangeShapes Go.WideShapes Go.ChangeAt Go.RowKit Sp
set_option linter.unusedVariables false
section
variable {H : Type} {enc : TypeId × Value → H} {w : World}
theorem el_spn : ∀ (fuel : Nat) (cs : List Value) (x : DataW H × List MemPlace), DataW.trod enc Try.prog w 0 (fun _ => true) true fuel 42 cs = some x → ∃ y : Int × Int, cs = spc y ∧ True := by
  intro fuel cs x h
  obtain ⟨h1, h2⟩ := flat_cells 3 42 [some .i64, some .i64] fuel cs x (by kernel_rfl) h
  obtain ⟨_, e0, a0, rfl, _⟩ := h2 0 _ rfl
  obtain ⟨_, e1, a1, rfl, _⟩ := h2 1 _ rfl
  match cs, h1, e0, e1 with
  | [_, _], _, e0, e1 =>
    simp at e0 e1
    exact ⟨(a0, a1), by rw [e0, e1]; rfl, trivial⟩
theorem el_cel : ∀ (fuel : Nat) (cs : List Value) (x : DataW H × List MemPlace), DataW.trod enc Try.prog w 0 (fun _ => true) true fuel 123 cs = some x → ∃ y : Cel, cs = cel y ∧ True := by
  intro fuel cs x h
  obtain ⟨h1, h2⟩ := flat_cells 4 123 [some .i64, some .i64, some .i64, some .i64, some .i64, some .i64, some .i64, some .i64] fuel cs x (by kernel_rfl) h
  obtain ⟨_, e0, a0, rfl, _⟩ := h2 0 _ rfl
  obtain ⟨_, e1, a1, rfl, _⟩ := h2 1 _ rfl
  obtain ⟨_, e2, a2, rfl, _⟩ := h2 2 _ rfl
  obtain ⟨_, e3, a3, rfl, _⟩ := h2 3 _ rfl
  obtain ⟨_, e4, a4, rfl, _⟩ := h2 4 _ rfl
  obtain ⟨_, e5, a5, rfl, _⟩ := h2 5 _ rfl
  obtain ⟨_, e6, a6, rfl, _⟩ := h2 6 _ rfl
  obtain ⟨_, e7, a7, rfl, _⟩ := h2 7 _ rfl
  match cs, h1, e0, e1, e2, e3, e4, e5, e6, e7 with
  | [_, _, _, _, _, _, _, _], _, e0, e1, e2, e3, e4, e5, e6, e7 =>
    simp at e0 e1 e2 e3 e4 e5 e6 e7
    exact ⟨⟨a0, a1, a2, a3, a4, a5, a6, a7⟩, by rw [e0, e1, e2, e3, e4, e5, e6, e7]; rfl, trivial⟩
set_option maxRecDepth 100000 in
theorem open_ice {r : Reach} {b0 : Nat} {v : Value} {d : DataW H} {ps : List MemPlace} (hval : Value.okWide Try.prog w r b0 111 v) (hd : DataW.Trod enc Try.prog w 0 (fun _ => true) true 111 v d ps) :
    ∃ x : Ice, v = .agg #[.int .i64 x.con, .int .i64 x.thk, .int .i64 x.rid, .int .i64 x.prs] := by
  obtain ⟨cs, rfl, fuel, h⟩ := open_agg Try.underlying111 hval hd
  obtain ⟨h1, h2⟩ := flat_cells 3 111 [some .i64, some .i64, some .i64, some .i64] fuel _ _ (by kernel_rfl) h
  obtain ⟨_, e0, a0, rfl, _⟩ := h2 0 _ rfl
  obtain ⟨_, e1, a1, rfl, _⟩ := h2 1 _ rfl
  obtain ⟨_, e2, a2, rfl, _⟩ := h2 2 _ rfl
  obtain ⟨_, e3, a3, rfl, _⟩ := h2 3 _ rfl
  match hcs : cs.toList, h1 with
  | [c0, c1, c2, c3], _ =>
    rw [hcs] at e0 e1 e2 e3
    simp at e0 e1 e2 e3
    rw [e0, e1, e2, e3] at hcs
    exact ⟨⟨a0, a1, a2, a3⟩, congrArg Value.agg (Array.ext' hcs)⟩
set_option maxRecDepth 100000 in
theorem open_chart {r : Reach} {b0 : Nat} {v : Value} {d : DataW H} {ps : List MemPlace} (hval : Value.okWide Try.prog w r b0 114 v) (hd : DataW.Trod enc Try.prog w 0 (fun _ => true) true 114 v d ps) :
    ∃ (a b c : Int) (A : Option Addr) (ca : Nat) (l : List Cel), v = .agg #[.int .i64 a, .int .i64 b, .int .i64 c, .slice A l.length ca] ∧ Rd w 8 A l.length (cels l) ∧ (A = none → l.length = 0 ∧ ca = 0) := by
  obtain ⟨cs, rfl, fuel, h⟩ := open_agg Try.underlying114 hval hd
  obtain ⟨xs, m, rfl, _, hlen, hxl, hf⟩ := DataW.trod_struct Try.underlying114 h
  have hc : Try.prog.cellsOf 114 = 4 := by kernel_rfl
  have hi : Try.prog.cellsOf 3 = 1 := by kernel_rfl
  have hs : Try.prog.cellsOf 112 = 1 := by kernel_rfl
  have h4 : Try.prog.cellsOf 123 = 8 := by kernel_rfl
  rw [hc] at hlen
  have get : ∀ i, i < 4 → ∃ y, xs[i]? = some y := fun i h => ⟨_, List.getElem?_eq_getElem (by rw [hxl]; exact h)⟩
  match hcs : cs.toList, hlen with
  | [c0, c1, c2, c3], _ =>
    rw [hcs] at hf
    obtain ⟨y0, e0⟩ := get 0 (by omega)
    obtain ⟨y1, e1⟩ := get 1 (by omega)
    obtain ⟨y2, e2⟩ := get 2 (by omega)
    obtain ⟨y3, e3⟩ := get 3 (by omega)
    have g0 := (hf 0 _ rfl).trans e0
    have g1 := (hf 1 _ rfl).trans e1
    have g2 := (hf 2 _ rfl).trans e2
    have g3 := (hf 3 _ rfl).trans e3
    simp [hs, hi] at g0 g1 g2 g3
    obtain ⟨n1, k1, _⟩ := DataW.trod_int Try.underlying3 g0
    obtain ⟨n2, k2, _⟩ := DataW.trod_int Try.underlying3 g1
    obtain ⟨n3, k3, _⟩ := DataW.trod_int Try.underlying3 g2
    obtain ⟨A, ca, l, hv, hr, _, _, _, h8⟩ := open_rows Try.underlying112 h4 (by omega) el_cel g3
    simp at hv k1 k2 k3
    refine ⟨n1, n2, n3, A, ca, l, ?_, hr, h8⟩
    rw [hv, k1, k2, k3] at hcs
    exact congrArg Value.agg (Array.ext' hcs)
end
end Go.Proofs.Ytfmhlnfcbbpfeaa
/- 'q, r := p, Policy(p)': the region that makes the two policies, whatever its order -/
namespace Go.Proofs.Ytfmhlnfcbbpfeaa
open Go Go.RowKit Sp
set_option linter.unusedVariables false

/-- behind 'q, r := p, Policy(p)' -/
structure QR (W0 wx : World) (b13 b14 : Nat) (As : Option Addr) (cs : Nat) (p : Pol) (Ap : Option Addr) (cp : Nat) : Prop where
  h13 : wx.heap[b13]? = some (.cells #[.slice As p.steps.length cs, .int .i64 p.hold, .int .i64 p.calm, .int .i64 p.notice, .int .i64 p.grace] 25 (0, 0))
  h14 : wx.heap[b14]? = some (.cells #[.slice Ap p.steps.length cp, .int .i64 p.hold, .int .i64 p.calm, .int .i64 p.notice, .int .i64 p.grace] 70 (0, 0))
  rd : Rd wx 4 Ap p.steps.length (stcs p.steps)
  ge : p.steps.length ≤ cp ∧ cp ≤ 9223372036854775807
  bel : Below W0.heap.size W0 wx
  n13 : W0.heap.size ≤ b13 ∧ W0.heap.size ≤ b14 ∧ b13 ≠ b14
  off : ∀ b o, Ap = some ⟨b, o, none⟩ → p.steps.length ≠ 0 → b ≠ b13

structure RgS where
  b13 : Nat
  b14 : Nat
  cp : Nat
  Ap : Option Addr

abbrev qrZpol : Array Value := #[.slice none 0 0, .int .i64 0, .int .i64 0, .int .i64 0, .int .i64 0]
/-- between the operations: c: the call, a, b: the two blocks, x, y: the two stores -/
structure QW (c a b x y : Nat) (W0 : World) (As : Option Addr) (cs : Nat) (p : Pol) (s : RgS) (l : Nat → Bool) (w : World) : Prop where
  bel : Below W0.heap.size W0 w
  pr : l c = true → Rd w 4 s.Ap p.steps.length (stcs p.steps) ∧ (p.steps.length ≤ s.cp ∧ s.cp ≤ 9223372036854775807) ∧ ∀ g o, s.Ap = some ⟨g, o, none⟩ → p.steps.length ≠ 0 → (l a = true → g ≠ s.b13) ∧ (l b = true → g ≠ s.b14)
  q3 : l a = true → W0.heap.size ≤ s.b13 ∧ w.heap[s.b13]? = some (.cells (if l x then #[.slice As p.steps.length cs, .int .i64 p.hold, .int .i64 p.calm, .int .i64 p.notice, .int .i64 p.grace] else qrZpol) 25 (0, 0))
  q4 : l b = true → W0.heap.size ≤ s.b14 ∧ w.heap[s.b14]? = some (.cells (if l y then #[.slice s.Ap p.steps.length s.cp, .int .i64 p.hold, .int .i64 p.calm, .int .i64 p.notice, .int .i64 p.grace] else qrZpol) 70 (0, 0))
  ne : l a = true → l b = true → s.b13 ≠ s.b14

section
variable {c a b x y : Nat} {W0 : World} {As : Option Addr} {cs : Nat} {p : Pol} {s : RgS} {l : Nat → Bool} {w w' : World}
theorem qrUpd_ne {l : Nat → Bool} {i j : Nat} (h : j ≠ i) : upd l i j = l j := by simp [upd, h]
theorem qrUpd_eq {l : Nat → Bool} {i : Nat} : upd l i i = true := by simp [upd]
theorem QW.other (h : QW c a b x y W0 As cs p s l w) (i : Nat) (hi : c ≠ i ∧ a ≠ i ∧ b ≠ i ∧ x ≠ i ∧ y ≠ i) : QW c a b x y W0 As cs p s (upd l i) w := by
  obtain ⟨h1, h2, h3, h4, h5⟩ := hi
  exact ⟨h.bel, by rw [qrUpd_ne h1, qrUpd_ne h2, qrUpd_ne h3]; exact h.pr, by rw [qrUpd_ne h2, qrUpd_ne h4]; exact h.q3, by rw [qrUpd_ne h3, qrUpd_ne h5]; exact h.q4, by rw [qrUpd_ne h2, qrUpd_ne h3]; exact h.ne⟩
theorem QW.call (h : QW c a b x y W0 As cs p s l w) (hd : a ≠ c ∧ b ≠ c ∧ x ≠ c ∧ y ≠ c) (hy : l y = false) {A : Option Addr} {n c' : Nat} {q : List Nat} (hb : Below w.heap.size w w') (ho : OwnS w' 161 4 A p.steps.length c' (stcs p.steps) q) (hq : ∀ g ∈ q, w.heap.size ≤ g) :
    QW c a b x y W0 As cs p { s with Ap := A, cp := c' } (upd l c) w' := by
  obtain ⟨h1, h2, h3, h4⟩ := hd
  refine ⟨h.bel.trans (hb.mono h.bel.size), fun _ => ⟨ho.rd, ⟨ho.ge, ho.cap⟩, fun g o e hn => ?_⟩, ?_, ?_, by rw [qrUpd_ne h1, qrUpd_ne h2]; exact h.ne⟩
  · obtain ⟨g', e', hq', _⟩ := ho.some_ (by omega)
    simp only at e
    rw [e] at e'
    injection e' with e'
    injection e' with e1
    subst e1
    have hg := hq g (by rw [hq']; simp)
    rw [qrUpd_ne h1, qrUpd_ne h2]
    exact ⟨fun h5 e => by have := heap_lt (h.q3 h5).2; simp only at e; omega, fun h5 e => by have := heap_lt (h.q4 h5).2; simp only at e; omega⟩
  · rw [qrUpd_ne h1, qrUpd_ne h3]
    exact fun h5 => ⟨(h.q3 h5).1, (hb.block _ (heap_lt (h.q3 h5).2)).trans (h.q3 h5).2⟩
  · rw [qrUpd_ne h2, qrUpd_ne h4, hy]
    intro h5
    have := h.q4 h5
    rw [hy] at this
    exact ⟨this.1, (hb.block _ (heap_lt this.2)).trans this.2⟩
theorem QW.allocA (h : QW c a b x y W0 As cs p s l w) (hd : c ≠ a ∧ b ≠ a ∧ x ≠ a ∧ y ≠ a) (hx : l x = false) :
    QW c a b x y W0 As cs p { s with b13 := w.heap.size } (upd l a) (w.alloc (.cells qrZpol 25)) := by
  obtain ⟨h1, h2, h3, h4⟩ := hd
  have bx : Below w.heap.size w (w.alloc (.cells qrZpol 25)) := (Below.refl _ _).alloc (Nat.le_refl _) _
  refine ⟨h.bel.trans (bx.mono h.bel.size), ?_, ?_, ?_, ?_⟩
  · rw [qrUpd_ne h1, qrUpd_ne h2]
    intro h5
    obtain ⟨p1, p2, p3⟩ := h.pr h5
    refine ⟨p1.below bx, p2, fun g o e hn => ⟨fun _ e2 => ?_, (p3 g o e hn).2⟩⟩
    obtain ⟨b', o', e', z', _⟩ := p1.2 (by omega)
    simp only at e
    rw [e] at e'; injection e' with e'; injection e' with e1
    simp only at e2
    omega
  · rw [qrUpd_ne h3, hx]
    exact fun _ => ⟨h.bel.size, heap_alloc_new _ _⟩
  · rw [qrUpd_ne h2, qrUpd_ne h4]
    exact fun h5 => ⟨(h.q4 h5).1, heap_alloc' (h.q4 h5).2 _⟩
  · rw [qrUpd_ne h2]
    exact fun _ h5 e => by have := heap_lt (h.q4 h5).2; simp only at e; omega
theorem QW.allocB (h : QW c a b x y W0 As cs p s l w) (hd : c ≠ b ∧ a ≠ b ∧ x ≠ b ∧ y ≠ b) (hy : l y = false) :
    QW c a b x y W0 As cs p { s with b14 := w.heap.size } (upd l b) (w.alloc (.cells qrZpol 70)) := by
  obtain ⟨h1, h2, h3, h4⟩ := hd
  have bx : Below w.heap.size w (w.alloc (.cells qrZpol 70)) := (Below.refl _ _).alloc (Nat.le_refl _) _
  refine ⟨h.bel.trans (bx.mono h.bel.size), ?_, ?_, ?_, ?_⟩
  · rw [qrUpd_ne h1, qrUpd_ne h2]
    intro h5
    obtain ⟨p1, p2, p3⟩ := h.pr h5
    refine ⟨p1.below bx, p2, fun g o e hn => ⟨(p3 g o e hn).1, fun _ e2 => ?_⟩⟩
    obtain ⟨b', o', e', z', _⟩ := p1.2 (by omega)
    simp only at e
    rw [e] at e'; injection e' with e'; injection e' with e1
    simp only at e2
    omega
  · rw [qrUpd_ne h2, qrUpd_ne h3]
    exact fun h5 => ⟨(h.q3 h5).1, heap_alloc' (h.q3 h5).2 _⟩
  · rw [qrUpd_ne h4, hy]
    exact fun _ => ⟨h.bel.size, heap_alloc_new _ _⟩
  · rw [qrUpd_ne h2]
    exact fun h5 _ e => by have := heap_lt (h.q3 h5).2; simp only at e; omega
theorem qrSet5 {w : World} {g : Nat} {t : TypeId} (v0 v1 v2 v3 v4 : Value) (h : w.heap[g]? = some (.cells qrZpol t (0, 0))) :
    (((((w.setCell ⟨g, 0, none⟩ v0).setCell ⟨g, 1, none⟩ v1).setCell ⟨g, 2, none⟩ v2).setCell ⟨g, 3, none⟩ v3).setCell ⟨g, 4, none⟩ v4).heap[g]? = some (.cells #[v0, v1, v2, v3, v4] t (0, 0)) :=
  heap_set (heap_set (heap_set (heap_set (heap_set h 0 v0) 1 v1) 2 v2) 3 v3) 4 v4
theorem qrKeep5 {S : List Nat} {w : World} {g : Nat} (v0 v1 v2 v3 v4 : Value) (hg : g ∈ S ∨ w.heap.size ≤ g) :
    Keep S w (((((w.setCell ⟨g, 0, none⟩ v0).setCell ⟨g, 1, none⟩ v1).setCell ⟨g, 2, none⟩ v2).setCell ⟨g, 3, none⟩ v3).setCell ⟨g, 4, none⟩ v4) :=
  (((((Keep.refl S w).setCell (by exact hg) v0).setCell (by exact hg) v1).setCell (by exact hg) v2).setCell (by exact hg) v3).setCell (by exact hg) v4
theorem QW.storeA (h : QW c a b x y W0 As cs p s l w) (hd : c ≠ x ∧ a ≠ x ∧ b ≠ x ∧ y ≠ x) (ha : l a = true) (hx : l x = false) :
    QW c a b x y W0 As cs p s (upd l x) (((((w.setCell ⟨s.b13, 0, none⟩ (.slice As p.steps.length cs)).setCell ⟨s.b13, 1, none⟩ (.int .i64 p.hold)).setCell ⟨s.b13, 2, none⟩ (.int .i64 p.calm)).setCell ⟨s.b13, 3, none⟩ (.int .i64 p.notice)).setCell ⟨s.b13, 4, none⟩ (.int .i64 p.grace)) := by
  obtain ⟨h1, h2, h3, h4⟩ := hd
  obtain ⟨n1, n2⟩ := h.q3 ha
  rw [hx] at n2
  have K := qrKeep5 (S := [s.b13]) (w := w) (g := s.b13) (.slice As p.steps.length cs) (.int .i64 p.hold) (.int .i64 p.calm) (.int .i64 p.notice) (.int .i64 p.grace) (.inl (by simp))
  refine ⟨h.bel.trans (K.below h.bel.size (by simp; exact n1)), ?_, ?_, ?_, by rw [qrUpd_ne h2, qrUpd_ne h3]; exact h.ne⟩
  · rw [qrUpd_ne h1, qrUpd_ne h2, qrUpd_ne h3]
    intro h5
    obtain ⟨p1, p2, p3⟩ := h.pr h5
    by_cases hn : p.steps.length = 0
    · refine ⟨⟨p1.1, fun h => by omega⟩, p2, p3⟩
    · exact ⟨K.rd p1 (fun g o e => by simpa using (p3 g o e hn).1 ha), p2, p3⟩
  · rw [qrUpd_eq]
    exact fun _ => ⟨n1, qrSet5 _ _ _ _ _ n2⟩
  · rw [qrUpd_ne h3, qrUpd_ne h4]
    exact fun h5 => ⟨(h.q4 h5).1, (K.block _ (heap_lt (h.q4 h5).2) (by simpa using fun e => h.ne ha h5 e.symm)).trans (h.q4 h5).2⟩
theorem QW.storeB (h : QW c a b x y W0 As cs p s l w) (hd : c ≠ y ∧ a ≠ y ∧ b ≠ y ∧ x ≠ y) (hb : l b = true) (hy : l y = false) :
    QW c a b x y W0 As cs p s (upd l y) (((((w.setCell ⟨s.b14, 0, none⟩ (.slice s.Ap p.steps.length s.cp)).setCell ⟨s.b14, 1, none⟩ (.int .i64 p.hold)).setCell ⟨s.b14, 2, none⟩ (.int .i64 p.calm)).setCell ⟨s.b14, 3, none⟩ (.int .i64 p.notice)).setCell ⟨s.b14, 4, none⟩ (.int .i64 p.grace)) := by
  obtain ⟨h1, h2, h3, h4⟩ := hd
  obtain ⟨n1, n2⟩ := h.q4 hb
  rw [hy] at n2
  have K := qrKeep5 (S := [s.b14]) (w := w) (g := s.b14) (.slice s.Ap p.steps.length s.cp) (.int .i64 p.hold) (.int .i64 p.calm) (.int .i64 p.notice) (.int .i64 p.grace) (.inl (by simp))
  refine ⟨h.bel.trans (K.below h.bel.size (by simp; exact n1)), ?_, ?_, ?_, by rw [qrUpd_ne h2, qrUpd_ne h3]; exact h.ne⟩
  · rw [qrUpd_ne h1, qrUpd_ne h2, qrUpd_ne h3]
    intro h5
    obtain ⟨p1, p2, p3⟩ := h.pr h5
    by_cases hn : p.steps.length = 0
    · refine ⟨⟨p1.1, fun h => by omega⟩, p2, p3⟩
    · exact ⟨K.rd p1 (fun g o e => by simpa using (p3 g o e hn).2 hb), p2, p3⟩
  · rw [qrUpd_ne h2, qrUpd_ne h4]
    exact fun h5 => ⟨(h.q3 h5).1, (K.block _ (heap_lt (h.q3 h5).2) (by simpa using fun e => h.ne h5 hb e)).trans (h.q3 h5).2⟩
  · rw [qrUpd_eq]
    exact fun _ => ⟨n1, qrSet5 _ _ _ _ _ n2⟩
theorem QW.fin (h : QW c a b x y W0 As cs p s l w) (hc : l c = true) (ha : l a = true) (hb : l b = true) (hx : l x = true) (hy : l y = true) : QR W0 w s.b13 s.b14 As cs p s.Ap s.cp := by
  obtain ⟨p1, p2, p3⟩ := h.pr hc
  obtain ⟨n1, n2⟩ := h.q3 ha
  obtain ⟨m1, m2⟩ := h.q4 hb
  rw [hx] at n2
  rw [hy] at m2
  exact ⟨n2, m2, p1, p2, h.bel, ⟨n1, m1, h.ne ha hb⟩, fun g o e hn => (p3 g o e hn).1 ha⟩
theorem qrZero {w : World} {g : Nat} {t : TypeId} (h : w.heap[g]? = some (.cells qrZpol t (0, 0))) :
    (w.cell? ⟨g, 0, none⟩ = some (.slice none 0 0) ∧ w.cell? ⟨g, 1, none⟩ = some (.int .i64 0) ∧ w.cell? ⟨g, 2, none⟩ = some (.int .i64 0) ∧ w.cell? ⟨g, 3, none⟩ = some (.int .i64 0) ∧ w.cell? ⟨g, 4, none⟩ = some (.int .i64 0)) ∧ (w.frozen? ⟨g, 0, none⟩ = false ∧ w.frozen? ⟨g, 1, none⟩ = false ∧ w.frozen? ⟨g, 2, none⟩ = false ∧ w.frozen? ⟨g, 3, none⟩ = false ∧ w.frozen? ⟨g, 4, none⟩ = false) :=
  ⟨⟨(cell_of_heap h 0).trans rfl, (cell_of_heap h 1).trans rfl, (cell_of_heap h 2).trans rfl, (cell_of_heap h 3).trans rfl, (cell_of_heap h 4).trans rfl⟩, frozen_of_heap h 0, frozen_of_heap h 1, frozen_of_heap h 2, frozen_of_heap h 3, frozen_of_heap h 4⟩
end
end Go.Proofs.Ytfmhlnfcbbpfeaa
