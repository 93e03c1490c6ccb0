/- polynyalaw08: long, Policy, same -/
import Derived.Test.YtbgnkljjgfcngaaGreatRSp9
import Derived.Test.YtbgnkljjgfcngaaGreatRSp10
import Derived.Test.YtbgnkljjgfcngaaGreatRSp2
import Derived.Test.YtbgnkljjgfcngaaGreatRSp6
import Derived.Test.YtbgnkljjgfcngaaGreatRSp0
set_option linter.unusedVariables false
set_option linter.unusedSimpArgs false
namespace Go.Proofs.YtbgnkljjgfcngaaGreat
open Go Go.RowKit Sp
set_option linter.unusedVariables false

def longB (n d : Int) : Bool := decide (20 < n) || (decide (60 < d) && decide (d ≤ 400)) || decide (420 < d)
set_option maxRecDepth 100000 in
set_option maxHeartbeats 1000000 in
theorem long_any (v1 v2 v3 v4 : Value) (As : Option Addr) (n cs : Nat) (d : Int) (w : World) :
    Calls Tryz.prog 17 #[.agg #[.slice As n cs, v1, v2, v3, v4], .int .i64 d] w fun e w' => e = .returned (.bool (longB n d)) ∧ Below w.heap.size w w' := by
  obtain ⟨r, hr⟩ : ∃ r, r = longB n d := ⟨_, rfl⟩
  rw [← hr]
  have HR := Lib.hid hr
  clear hr
  by_cases h1 : 20 < n
  case' pos => have h1' : (20 : Int) < (n : Int) := by omega
  case' neg => have h1' : ¬ (20 : Int) < (n : Int) := by omega
  all_goals by_cases h2 : (60 : Int) < d
  all_goals by_cases h3 : d ≤ (400 : Int)
  all_goals by_cases h4 : (420 : Int) < d
  all_goals
    first
    | (exfalso; omega)
    | (go_enter Tryz.func17, Tryz.ntmps17
       go_wp2_with fail
       go_ret
       refine ⟨?_, (Below.refl _ _).alloc (Nat.le_refl _) _⟩
       rw [HR.out]
       simp [longB, h2, h3, h4] <;> omega)

theorem infoRStp : (Tryz.prog.info? 141).map (fun i => (i.zero, i.size, i.bytes)) = some (some (.agg #[.int .i64 0, .int .i64 0, .int .i64 0, .int .i64 0]), 4, 32) := by kernel_rfl

/-- what the loop of Policy keeps -/
structure PoSt (W wr : World) (ob : Nat) (p : Pol) (Ao : Option Addr) (k co : Nat) (q : List Nat) : Prop where
  blk : wr.heap[ob]? = some (.cells #[.slice Ao k co, .int .i64 p.hold, .int .i64 p.calm, .int .i64 p.notice, .int .i64 p.grace] 65 (0, 0))
  own : OwnS wr 141 4 Ao k co (stcs (p.steps.take k)) q
  new : ∀ g ∈ q, W.heap.size ≤ g
  keep : Keep [ob] W wr

theorem polStcs_append (l m : List Stp) : stcs (l ++ m) = stcs l ++ stcs m := by simp [stcs]
theorem PoSt.step {W wr w5 : World} {ob : Nat} {p : Pol} {Ao : Option Addr} {k co : Nat} {q : List Nat} (h : PoSt W wr ob p Ao k co q) (hob : ob < W.heap.size) {o1 o2 : Obj} {g c' : Nat} (hk : k < p.steps.length)
    (h1 : OwnS w5 141 4 (some ⟨g, 0, none⟩) (k + 1) c' (stcs (p.steps.take k) ++ stc p.steps[k]) [g]) (h2 : g ∈ q ∨ ((wr.alloc o1).alloc o2).heap.size = g) (h4 : Keep q ((wr.alloc o1).alloc o2) w5) :
    w5.heap[ob]? = some (.cells #[.slice Ao k co, .int .i64 p.hold, .int .i64 p.calm, .int .i64 p.notice, .int .i64 p.grace] 65 (0, 0)) ∧
    PoSt W (w5.setCell ⟨ob, 0, none⟩ (.slice (some ⟨g, 0, none⟩) (k + 1) c')) ob p (some ⟨g, 0, none⟩) (k + 1) c' [g] := by
  have hW := h.keep.size
  have hobq : ob ∉ q := fun hm => by have := h.new _ hm; omega
  have e5 : w5.heap[ob]? = some (.cells #[.slice Ao k co, .int .i64 p.hold, .int .i64 p.calm, .int .i64 p.notice, .int .i64 p.grace] 65 (0, 0)) :=
    (h4.block ob (by have := heap_lt h.blk; simp; omega) hobq).trans (heap_alloc' (heap_alloc' h.blk _) _)
  have hg : W.heap.size ≤ g := by
    rcases h2 with h2 | h2
    · exact h.new _ h2
    · simp at h2; omega
  refine ⟨e5, heap_set e5 0 _, ?_, fun g' hg' => by rw [List.mem_singleton.1 hg']; exact hg, ?_⟩
  · rw [List.take_succ_eq_append_getElem hk, polStcs_append]
    have : stcs [p.steps[k]] = stc p.steps[k] := by simp [stcs]
    rw [this]
    exact h1.setCell (by simp; omega) _
  · exact (((h.keep.alloc _).alloc _).trans h4 (fun y hy => .inr (h.new _ hy))).setCell (.inl (by simp)) _

set_option maxRecDepth 100000 in
set_option maxHeartbeats 2000000 in
theorem policy_any (As : Option Addr) (cs : Nat) (p : Pol) (w : World) (hp : PolV w As cs p) (hl : p.steps.length ≤ 1000) :
    Calls Tryz.prog 15 #[.agg #[.slice As p.steps.length cs, .int .i64 p.hold, .int .i64 p.calm, .int .i64 p.notice, .int .i64 p.grace]] w fun e w' => ∃ A c q, e = .returned (.agg #[.slice A p.steps.length c, .int .i64 p.hold, .int .i64 p.calm, .int .i64 p.notice, .int .i64 p.grace]) ∧
      OwnS w' 141 4 A p.steps.length c (stcs p.steps) q ∧ (∀ g ∈ q, w.heap.size ≤ g) ∧ Below w.heap.size w w' := by
  obtain ⟨i0, hi, hz0, hz1, hz2⟩ := info_parts infoRStp
  obtain ⟨W, hW⟩ : ∃ W, W = (((w.alloc (.cells #[.slice As p.steps.length cs, .int .i64 p.hold, .int .i64 p.calm, .int .i64 p.notice, .int .i64 p.grace] 25)).alloc (.cells #[.slice none 0 0, .int .i64 0, .int .i64 0, .int .i64 0, .int .i64 0] 65)).alloc (.cells #[.slice none 0 0, .int .i64 p.hold, .int .i64 p.calm, .int .i64 p.notice, .int .i64 p.grace] 65)) := ⟨_, rfl⟩
  have bW : Below w.heap.size w W := by rw [hW]; exact (((Below.refl _ _).alloc (Nat.le_refl _) _).alloc (by simp) _).alloc (by simp; omega) _
  obtain ⟨rb, hrb⟩ : ∃ rb, rb = w.heap.size + 1 := ⟨_, rfl⟩
  obtain ⟨ob, hob⟩ : ∃ ob, ob = w.heap.size + 1 + 1 := ⟨_, rfl⟩
  have zW : W.heap.size = ob + 1 := by rw [hW, hob]; simp
  have eo : W.heap[ob]? = some (.cells #[.slice none 0 0, .int .i64 p.hold, .int .i64 p.calm, .int .i64 p.notice, .int .i64 p.grace] 65 (0, 0)) := by
    rw [hW, hob]
    have := heap_alloc_new ((w.alloc (.cells #[.slice As p.steps.length cs, .int .i64 p.hold, .int .i64 p.calm, .int .i64 p.notice, .int .i64 p.grace] 25)).alloc (.cells #[.slice none 0 0, .int .i64 0, .int .i64 0, .int .i64 0, .int .i64 0] 65)) (.cells #[.slice none 0 0, .int .i64 p.hold, .int .i64 p.calm, .int .i64 p.notice, .int .i64 p.grace] 65)
    simpa using this
  have er : W.heap[rb]? = some (.cells #[.slice none 0 0, .int .i64 0, .int .i64 0, .int .i64 0, .int .i64 0] 65 (0, 0)) := by
    rw [hW, hrb]
    have := heap_alloc_new (w.alloc (.cells #[.slice As p.steps.length cs, .int .i64 p.hold, .int .i64 p.calm, .int .i64 p.notice, .int .i64 p.grace] 25)) (.cells #[.slice none 0 0, .int .i64 0, .int .i64 0, .int .i64 0, .int .i64 0] 65)
    rw [World.size_alloc] at this
    exact heap_alloc' this _
  have hbo : w.heap.size < rb ∧ rb < ob := by omega
  have HP := Lib.hid (And.intro hp (And.intro bW (And.intro eo (And.intro er (And.intro zW hbo)))))
  clear hp bW eo er zW hbo
  go_enter Tryz.func15, Tryz.ntmps15
  go_wp2_with fail
  rw [← hW, ← hob, ← hrb]
  clear hW hob hrb
  go_loopg [18] (p.steps.length) (fun g i wr => ∃ (k : Nat) (Ao : Option Addr) (co : Nat) (q : List Nat), g + k = p.steps.length ∧ i = .int .i64 k ∧ PoSt W wr ob p Ao k co q)
  case atStart => exact ⟨0, none, 0, [], rfl, rfl, HP.out.2.2.1, by simpa [stcs] using OwnS.nil _ _ _, by simp, Keep.refl _ _⟩
  case round =>
    obtain ⟨k, Ao, co, q, hk, rfl, hst⟩ := hrel
    have o0 := (cell_of_heap hst.blk 0).trans rfl
    have zo := heap_lt hst.blk
    by_cases hlt : k < p.steps.length
    · have rdw := (HP.out.1.2.2.below HP.out.2.1)
      have rdr := hst.keep.rd rdw (fun b off e => by
        obtain ⟨b', off', e', hb', _⟩ := HP.out.1.2.2.2 (by omega)
        rw [e] at e'; injection e' with e'; injection e' with e1
        have := HP.out.2.2.2.2.2
        simp; omega)
      obtain ⟨b, off, rfl, hb, hc⟩ := rdr.2 (by omega)
      obtain ⟨s0, s1, s2, s3⟩ := stcs_get hlt
      have c0 := hc _ _ s0
      have c1 : wr.cell? ⟨b, off + k * 4 + 1, none⟩ = _ := hc _ _ s1
      have c2 : wr.cell? ⟨b, off + k * 4 + 2, none⟩ = _ := hc _ _ s2
      have c3 : wr.cell? ⟨b, off + k * 4 + 3, none⟩ = _ := hc _ _ s3
      obtain ⟨x, hx⟩ : ∃ x, x = p.steps[k] := ⟨_, rfl⟩
      rw [← hx] at c0 c1 c2 c3
      have n2 : (k : Int) < (p.steps.length : Int) := by omega
      have HS := Lib.hid (And.intro hst hx)
      clear hc s0 s1 s2 s3 rdr rdw hst hx
      go_wp2_with (at_builtin
                   refine wpList_append_S (size := 4) rfl (.tmp 23) (.tmp 25) 63 rfl i0 _ 32 Tryz.underlying63 hi hz0 hz1 (by decide) hz2 rfl (A := Ao) (n := k) (c := co) (xs := stcs (p.steps.take k)) (fp := q) (by simp [Act.eval]) ⟨wr.heap.size + 1, 0, none⟩ (by simp [Act.eval]) [.int .i64 x.cls, .int .i64 x.ton, .int .i64 x.up, .int .i64 x.dn] ((HS.out.1.own.alloc _).alloc _) rfl ?_ (by simp [Value.oneCell']) (by omega) (by omega) ?_
                   · intro j v hv
                     rw [show (⟨wr.heap.size + 1, 0, none⟩ : Addr).add j = ⟨wr.heap.size + 1, j, none⟩ from by simp [Addr.add]; omega]
                     have := World.cell?_alloc_new (wr.alloc (.cells #[.int .i64 x.cls, .int .i64 x.ton, .int .i64 x.up, .int .i64 x.dn] 36)) #[.int .i64 x.cls, .int .i64 x.ton, .int .i64 x.up, .int .i64 x.dn] 141 j
                     rw [World.size_alloc] at this
                     rw [this]
                     simpa using hv
                   intro g c' w5 h1 h2 h3 h4
                   have hq := HS.out.1.step (by have := HP.out.2.2.2.2.1; omega) hlt (by rw [← HS.out.2]; exact h1) h2 h4
                   have d0 : w5.cell? ⟨ob, 0, none⟩ = some (.slice Ao k co) := (cell_of_heap hq.1 0).trans rfl
                   have d1 := frozen_of_heap hq.1 0
                   have HQ := Lib.hid hq.2
                   clear h1 h2 h3 h4 hq)
      go_roundg (gk - 1)
      case measure => omega
      case rel => exact ⟨k + 1, some ⟨g, 0, none⟩, c', [g], by omega, by go_num, HQ.out⟩
    · obtain rfl : k = p.steps.length := by omega
      have o1 := (cell_of_heap hst.blk 1).trans rfl
      have o2 := (cell_of_heap hst.blk 2).trans rfl
      have o3 := (cell_of_heap hst.blk 3).trans rfl
      have o4 := (cell_of_heap hst.blk 4).trans rfl
      have erw : wr.heap[rb]? = some (.cells #[.slice none 0 0, .int .i64 0, .int .i64 0, .int .i64 0, .int .i64 0] 65 (0, 0)) := (hst.keep.block rb (heap_lt HP.out.2.2.2.1) (by have := HP.out.2.2.2.2.2; simp; omega)).trans HP.out.2.2.2.1
      have r0 := (cell_of_heap erw 0).trans rfl
      have r1 := (cell_of_heap erw 1).trans rfl
      have r2 := (cell_of_heap erw 2).trans rfl
      have r3 := (cell_of_heap erw 3).trans rfl
      have r4 := (cell_of_heap erw 4).trans rfl
      have f0 := frozen_of_heap erw 0
      have f1 := frozen_of_heap erw 1
      have f2 := frozen_of_heap erw 2
      have f3 := frozen_of_heap erw 3
      have f4 := frozen_of_heap erw 4
      have zr := heap_lt erw
      have HS := Lib.hid (And.intro hst erw)
      clear hst erw
      go_wp2_with fail
      have ew := heap_set (heap_set (heap_set (heap_set (heap_set HS.out.2 0 (.slice Ao p.steps.length co)) 1 (.int .i64 p.hold)) 2 (.int .i64 p.calm)) 3 (.int .i64 p.notice)) 4 (.int .i64 p.grace)
      have x0 := (cell_of_heap ew 0).trans rfl
      have x1 := (cell_of_heap ew 1).trans rfl
      have x2 := (cell_of_heap ew 2).trans rfl
      have x3 := (cell_of_heap ew 3).trans rfl
      have x4 := (cell_of_heap ew 4).trans rfl
      have hrq : rb ∉ q := fun hm => by have := HS.out.1.new _ hm; have := HP.out.2.2.2.2; omega
      refine bodyPost_ret (v := .agg #[.slice Ao p.steps.length co, .int .i64 p.hold, .int .i64 p.calm, .int .i64 p.notice, .int .i64 p.grace]) (by simp [results, Tryz.results15, go_sem, x0, x1, x2, x3, x4]) rfl ?_
      have hown := HS.out.1.own
      rw [List.take_of_length_le (Nat.le_refl _)] at hown
      have hz := HP.out.2.2.2.2
      have hbs := HP.out.2.1.size
      refine ⟨Ao, co, q, rfl, ((((hown.setCell (by exact hrq) _).setCell (by exact hrq) _).setCell (by exact hrq) _).setCell (by exact hrq) _).setCell (by exact hrq) _, fun g hg => by have := HS.out.1.new _ hg; omega, ?_⟩
      have hB : Below w.heap.size w wr := HP.out.2.1.trans (HS.out.1.keep.below hbs (by simp; omega))
      exact ((((hB.setCell (by simp; omega) _).setCell (by simp; omega) _).setCell (by simp; omega) _).setCell (by simp; omega) _).setCell (by simp; omega) _

set_option maxRecDepth 100000 in
set_option maxHeartbeats 2000000 in
theorem same_any (As : Option Addr) (cs : Nat) (p : Pol) (Ar : Option Addr) (cr : Nat) (w : World) (hp : PolV w As cs p) (hr : Rd w 4 Ar p.steps.length (stcs p.steps)) (hl : p.steps.length ≤ 1000) :
    Calls Tryz.prog 36 #[.agg #[.slice As p.steps.length cs, .int .i64 p.hold, .int .i64 p.calm, .int .i64 p.notice, .int .i64 p.grace], .agg #[.slice Ar p.steps.length cr, .int .i64 p.hold, .int .i64 p.calm, .int .i64 p.notice, .int .i64 p.grace]] w fun e w' => e = .returned (.bool true) ∧ Below w.heap.size w w' := by
  obtain ⟨W0, hW0⟩ : ∃ W, W = w.alloc (.cells #[.slice As p.steps.length cs, .int .i64 p.hold, .int .i64 p.calm, .int .i64 p.notice, .int .i64 p.grace] 25) := ⟨_, rfl⟩
  obtain ⟨W, hW⟩ : ∃ W, W = W0.alloc (.cells #[.slice Ar p.steps.length cr, .int .i64 p.hold, .int .i64 p.calm, .int .i64 p.notice, .int .i64 p.grace] 65) := ⟨_, rfl⟩
  obtain ⟨ab, hab⟩ : ∃ ab, ab = w.heap.size := ⟨_, rfl⟩
  obtain ⟨bb, hbb⟩ : ∃ bb, bb = w.heap.size + 1 := ⟨_, rfl⟩
  have ea : W.heap[ab]? = some (.cells #[.slice As p.steps.length cs, .int .i64 p.hold, .int .i64 p.calm, .int .i64 p.notice, .int .i64 p.grace] 25 (0, 0)) := by rw [hW, hW0, hab]; exact heap_alloc' (heap_alloc_new _ _) _
  have eb : W.heap[bb]? = some (.cells #[.slice Ar p.steps.length cr, .int .i64 p.hold, .int .i64 p.calm, .int .i64 p.notice, .int .i64 p.grace] 65 (0, 0)) := by
    rw [hW, hbb]
    have := heap_alloc_new W0 (.cells #[.slice Ar p.steps.length cr, .int .i64 p.hold, .int .i64 p.calm, .int .i64 p.notice, .int .i64 p.grace] 65)
    rwa [show W0.heap.size = w.heap.size + 1 from by rw [hW0]; simp] at this
  have bW : Below w.heap.size w W := by rw [hW, hW0]; exact ((Below.refl _ _).alloc (Nat.le_refl _) _).alloc (by simp) _
  have k1 := policy_any As cs p W ⟨hp.1, hp.2.1, hp.2.2.below bW⟩ hl
  have a0 := (cell_of_heap ea 0).trans rfl
  have a1 := (cell_of_heap ea 1).trans rfl
  have a2 := (cell_of_heap ea 2).trans rfl
  have a3 := (cell_of_heap ea 3).trans rfl
  have a4 := (cell_of_heap ea 4).trans rfl
  have za := heap_lt ea
  have HP := Lib.hid (And.intro bW (And.intro ea (And.intro eb (And.intro k1 (hr.below bW)))))
  clear hp hr ea eb bW k1
  go_enter Tryz.func36, Tryz.ntmps36
  go_upto_region 1 with fail
  rw [← hbb, ← hab, ← hW0, ← hW]
  clear hW hW0 hab hbb
  go_wp2_with fail
  refine HP.out.2.2.2.1.mono ?_
  rintro e w1 ⟨A, c, q, rfl, h1, h2, h3⟩
  clear a0 a1 a2 a3 a4 za
  have ea := (h3.block _ (heap_lt HP.out.2.1)).trans HP.out.2.1
  have eb := (h3.block _ (heap_lt HP.out.2.2.1)).trans HP.out.2.2.1
  have a1 := (cell_of_heap ea 1).trans rfl
  have a2 := (cell_of_heap ea 2).trans rfl
  have a3 := (cell_of_heap ea 3).trans rfl
  have a4 := (cell_of_heap ea 4).trans rfl
  have za := heap_lt ea
  have b0 := (cell_of_heap eb 0).trans rfl
  have b1 := (cell_of_heap eb 1).trans rfl
  have b2 := (cell_of_heap eb 2).trans rfl
  have b3 := (cell_of_heap eb 3).trans rfl
  have b4 := (cell_of_heap eb 4).trans rfl
  have zb := heap_lt eb
  have bx : ∀ o, Below w1.heap.size w1 (w1.alloc o) := fun o => (Below.refl _ _).alloc (Nat.le_refl _) _
  have k2 := fun o => eqRStp_same A c p.steps Ar cr (w1.alloc o) (h1.rd.below (bx o)) ((HP.out.2.2.2.2.below h3).below (bx o)) (by omega)
  have H1 := Lib.hid (And.intro k2 (HP.out.1.trans (h3.mono HP.out.1.size)))
  have HE := Lib.hid (And.intro ea eb)
  clear ea eb h1 h2 h3 bx k2
  go_wp2_with fail
  refine (H1.out.1 _).mono ?_
  rintro e w2 ⟨rfl, hB⟩
  have hB1 : Below w1.heap.size w1 w2 := ((Below.refl w1.heap.size w1).alloc (Nat.le_refl _) _).trans (hB.mono (by simp))
  clear a1 a2 a3 a4 za b0 b1 b2 b3 b4 zb
  have ea := (hB1.block _ (heap_lt HE.out.1)).trans HE.out.1
  have eb := (hB1.block _ (heap_lt HE.out.2)).trans HE.out.2
  have a1 := (cell_of_heap ea 1).trans rfl
  have a2 := (cell_of_heap ea 2).trans rfl
  have a3 := (cell_of_heap ea 3).trans rfl
  have a4 := (cell_of_heap ea 4).trans rfl
  have b1 := (cell_of_heap eb 1).trans rfl
  have b2 := (cell_of_heap eb 2).trans rfl
  have b3 := (cell_of_heap eb 3).trans rfl
  have b4 := (cell_of_heap eb 4).trans rfl
  have HB := Lib.hid (H1.out.2.trans (hB1.mono H1.out.2.size))
  clear ea eb hB hB1
  go_wp2_with fail
  go_ret
  exact ⟨by simp, HB.out⟩
end Go.Proofs.YtbgnkljjgfcngaaGreat
/- 'q, r := p, Policy(p)': the region that makes the two policies, whatever its order -/
namespace Go.Proofs.YtbgnkljjgfcngaaGreat
open Go Go.RowKit Sp
set_option linter.unusedVariables false

/-- behind 'q, r := p, Policy(p)' -/
structure QR (W0 wx : World) (b13 b14 : Nat) (As : Option Addr) (cs : Nat) (p : Pol) (Ap : Option Addr) (cp : Nat) : Prop where
  h13 : wx.heap[b13]? = some (.cells #[.slice As p.steps.length cs, .int .i64 p.hold, .int .i64 p.calm, .int .i64 p.notice, .int .i64 p.grace] 25 (0, 0))
  h14 : wx.heap[b14]? = some (.cells #[.slice Ap p.steps.length cp, .int .i64 p.hold, .int .i64 p.calm, .int .i64 p.notice, .int .i64 p.grace] 65 (0, 0))
  rd : Rd wx 4 Ap p.steps.length (stcs p.steps)
  ge : p.steps.length ≤ cp ∧ cp ≤ 9223372036854775807
  bel : Below W0.heap.size W0 wx
  n13 : W0.heap.size ≤ b13 ∧ W0.heap.size ≤ b14 ∧ b13 ≠ b14
  off : ∀ b o, Ap = some ⟨b, o, none⟩ → p.steps.length ≠ 0 → b ≠ b13

structure RgS where
  b13 : Nat
  b14 : Nat
  cp : Nat
  Ap : Option Addr

abbrev qrZpol : Array Value := #[.slice none 0 0, .int .i64 0, .int .i64 0, .int .i64 0, .int .i64 0]
/-- between the operations: c: the call, a, b: the two blocks, x, y: the two stores -/
structure QW (c a b x y : Nat) (W0 : World) (As : Option Addr) (cs : Nat) (p : Pol) (s : RgS) (l : Nat → Bool) (w : World) : Prop where
  bel : Below W0.heap.size W0 w
  pr : l c = true → Rd w 4 s.Ap p.steps.length (stcs p.steps) ∧ (p.steps.length ≤ s.cp ∧ s.cp ≤ 9223372036854775807) ∧ ∀ g o, s.Ap = some ⟨g, o, none⟩ → p.steps.length ≠ 0 → (l a = true → g ≠ s.b13) ∧ (l b = true → g ≠ s.b14)
  q3 : l a = true → W0.heap.size ≤ s.b13 ∧ w.heap[s.b13]? = some (.cells (if l x then #[.slice As p.steps.length cs, .int .i64 p.hold, .int .i64 p.calm, .int .i64 p.notice, .int .i64 p.grace] else qrZpol) 25 (0, 0))
  q4 : l b = true → W0.heap.size ≤ s.b14 ∧ w.heap[s.b14]? = some (.cells (if l y then #[.slice s.Ap p.steps.length s.cp, .int .i64 p.hold, .int .i64 p.calm, .int .i64 p.notice, .int .i64 p.grace] else qrZpol) 65 (0, 0))
  ne : l a = true → l b = true → s.b13 ≠ s.b14

section
variable {c a b x y : Nat} {W0 : World} {As : Option Addr} {cs : Nat} {p : Pol} {s : RgS} {l : Nat → Bool} {w w' : World}
theorem qrUpd_ne {l : Nat → Bool} {i j : Nat} (h : j ≠ i) : upd l i j = l j := by simp [upd, h]
theorem qrUpd_eq {l : Nat → Bool} {i : Nat} : upd l i i = true := by simp [upd]
theorem QW.other (h : QW c a b x y W0 As cs p s l w) (i : Nat) (hi : c ≠ i ∧ a ≠ i ∧ b ≠ i ∧ x ≠ i ∧ y ≠ i) : QW c a b x y W0 As cs p s (upd l i) w := by
  obtain ⟨h1, h2, h3, h4, h5⟩ := hi
  exact ⟨h.bel, by rw [qrUpd_ne h1, qrUpd_ne h2, qrUpd_ne h3]; exact h.pr, by rw [qrUpd_ne h2, qrUpd_ne h4]; exact h.q3, by rw [qrUpd_ne h3, qrUpd_ne h5]; exact h.q4, by rw [qrUpd_ne h2, qrUpd_ne h3]; exact h.ne⟩
theorem QW.call (h : QW c a b x y W0 As cs p s l w) (hd : a ≠ c ∧ b ≠ c ∧ x ≠ c ∧ y ≠ c) (hy : l y = false) {A : Option Addr} {n c' : Nat} {q : List Nat} (hb : Below w.heap.size w w') (ho : OwnS w' 141 4 A p.steps.length c' (stcs p.steps) q) (hq : ∀ g ∈ q, w.heap.size ≤ g) :
    QW c a b x y W0 As cs p { s with Ap := A, cp := c' } (upd l c) w' := by
  obtain ⟨h1, h2, h3, h4⟩ := hd
  refine ⟨h.bel.trans (hb.mono h.bel.size), fun _ => ⟨ho.rd, ⟨ho.ge, ho.cap⟩, fun g o e hn => ?_⟩, ?_, ?_, by rw [qrUpd_ne h1, qrUpd_ne h2]; exact h.ne⟩
  · obtain ⟨g', e', hq', _⟩ := ho.some_ (by omega)
    simp only at e
    rw [e] at e'
    injection e' with e'
    injection e' with e1
    subst e1
    have hg := hq g (by rw [hq']; simp)
    rw [qrUpd_ne h1, qrUpd_ne h2]
    exact ⟨fun h5 e => by have := heap_lt (h.q3 h5).2; simp only at e; omega, fun h5 e => by have := heap_lt (h.q4 h5).2; simp only at e; omega⟩
  · rw [qrUpd_ne h1, qrUpd_ne h3]
    exact fun h5 => ⟨(h.q3 h5).1, (hb.block _ (heap_lt (h.q3 h5).2)).trans (h.q3 h5).2⟩
  · rw [qrUpd_ne h2, qrUpd_ne h4, hy]
    intro h5
    have := h.q4 h5
    rw [hy] at this
    exact ⟨this.1, (hb.block _ (heap_lt this.2)).trans this.2⟩
theorem QW.allocA (h : QW c a b x y W0 As cs p s l w) (hd : c ≠ a ∧ b ≠ a ∧ x ≠ a ∧ y ≠ a) (hx : l x = false) :
    QW c a b x y W0 As cs p { s with b13 := w.heap.size } (upd l a) (w.alloc (.cells qrZpol 25)) := by
  obtain ⟨h1, h2, h3, h4⟩ := hd
  have bx : Below w.heap.size w (w.alloc (.cells qrZpol 25)) := (Below.refl _ _).alloc (Nat.le_refl _) _
  refine ⟨h.bel.trans (bx.mono h.bel.size), ?_, ?_, ?_, ?_⟩
  · rw [qrUpd_ne h1, qrUpd_ne h2]
    intro h5
    obtain ⟨p1, p2, p3⟩ := h.pr h5
    refine ⟨p1.below bx, p2, fun g o e hn => ⟨fun _ e2 => ?_, (p3 g o e hn).2⟩⟩
    obtain ⟨b', o', e', z', _⟩ := p1.2 (by omega)
    simp only at e
    rw [e] at e'; injection e' with e'; injection e' with e1
    simp only at e2
    omega
  · rw [qrUpd_ne h3, hx]
    exact fun _ => ⟨h.bel.size, heap_alloc_new _ _⟩
  · rw [qrUpd_ne h2, qrUpd_ne h4]
    exact fun h5 => ⟨(h.q4 h5).1, heap_alloc' (h.q4 h5).2 _⟩
  · rw [qrUpd_ne h2]
    exact fun _ h5 e => by have := heap_lt (h.q4 h5).2; simp only at e; omega
theorem QW.allocB (h : QW c a b x y W0 As cs p s l w) (hd : c ≠ b ∧ a ≠ b ∧ x ≠ b ∧ y ≠ b) (hy : l y = false) :
    QW c a b x y W0 As cs p { s with b14 := w.heap.size } (upd l b) (w.alloc (.cells qrZpol 65)) := by
  obtain ⟨h1, h2, h3, h4⟩ := hd
  have bx : Below w.heap.size w (w.alloc (.cells qrZpol 65)) := (Below.refl _ _).alloc (Nat.le_refl _) _
  refine ⟨h.bel.trans (bx.mono h.bel.size), ?_, ?_, ?_, ?_⟩
  · rw [qrUpd_ne h1, qrUpd_ne h2]
    intro h5
    obtain ⟨p1, p2, p3⟩ := h.pr h5
    refine ⟨p1.below bx, p2, fun g o e hn => ⟨(p3 g o e hn).1, fun _ e2 => ?_⟩⟩
    obtain ⟨b', o', e', z', _⟩ := p1.2 (by omega)
    simp only at e
    rw [e] at e'; injection e' with e'; injection e' with e1
    simp only at e2
    omega
  · rw [qrUpd_ne h2, qrUpd_ne h3]
    exact fun h5 => ⟨(h.q3 h5).1, heap_alloc' (h.q3 h5).2 _⟩
  · rw [qrUpd_ne h4, hy]
    exact fun _ => ⟨h.bel.size, heap_alloc_new _ _⟩
  · rw [qrUpd_ne h2]
    exact fun h5 _ e => by have := heap_lt (h.q3 h5).2; simp only at e; omega
theorem qrSet5 {w : World} {g : Nat} {t : TypeId} (v0 v1 v2 v3 v4 : Value) (h : w.heap[g]? = some (.cells qrZpol t (0, 0))) :
    (((((w.setCell ⟨g, 0, none⟩ v0).setCell ⟨g, 1, none⟩ v1).setCell ⟨g, 2, none⟩ v2).setCell ⟨g, 3, none⟩ v3).setCell ⟨g, 4, none⟩ v4).heap[g]? = some (.cells #[v0, v1, v2, v3, v4] t (0, 0)) :=
  heap_set (heap_set (heap_set (heap_set (heap_set h 0 v0) 1 v1) 2 v2) 3 v3) 4 v4
theorem qrKeep5 {S : List Nat} {w : World} {g : Nat} (v0 v1 v2 v3 v4 : Value) (hg : g ∈ S ∨ w.heap.size ≤ g) :
    Keep S w (((((w.setCell ⟨g, 0, none⟩ v0).setCell ⟨g, 1, none⟩ v1).setCell ⟨g, 2, none⟩ v2).setCell ⟨g, 3, none⟩ v3).setCell ⟨g, 4, none⟩ v4) :=
  (((((Keep.refl S w).setCell (by exact hg) v0).setCell (by exact hg) v1).setCell (by exact hg) v2).setCell (by exact hg) v3).setCell (by exact hg) v4
theorem QW.storeA (h : QW c a b x y W0 As cs p s l w) (hd : c ≠ x ∧ a ≠ x ∧ b ≠ x ∧ y ≠ x) (ha : l a = true) (hx : l x = false) :
    QW c a b x y W0 As cs p s (upd l x) (((((w.setCell ⟨s.b13, 0, none⟩ (.slice As p.steps.length cs)).setCell ⟨s.b13, 1, none⟩ (.int .i64 p.hold)).setCell ⟨s.b13, 2, none⟩ (.int .i64 p.calm)).setCell ⟨s.b13, 3, none⟩ (.int .i64 p.notice)).setCell ⟨s.b13, 4, none⟩ (.int .i64 p.grace)) := by
  obtain ⟨h1, h2, h3, h4⟩ := hd
  obtain ⟨n1, n2⟩ := h.q3 ha
  rw [hx] at n2
  have K := qrKeep5 (S := [s.b13]) (w := w) (g := s.b13) (.slice As p.steps.length cs) (.int .i64 p.hold) (.int .i64 p.calm) (.int .i64 p.notice) (.int .i64 p.grace) (.inl (by simp))
  refine ⟨h.bel.trans (K.below h.bel.size (by simp; exact n1)), ?_, ?_, ?_, by rw [qrUpd_ne h2, qrUpd_ne h3]; exact h.ne⟩
  · rw [qrUpd_ne h1, qrUpd_ne h2, qrUpd_ne h3]
    intro h5
    obtain ⟨p1, p2, p3⟩ := h.pr h5
    by_cases hn : p.steps.length = 0
    · refine ⟨⟨p1.1, fun h => by omega⟩, p2, p3⟩
    · exact ⟨K.rd p1 (fun g o e => by simpa using (p3 g o e hn).1 ha), p2, p3⟩
  · rw [qrUpd_eq]
    exact fun _ => ⟨n1, qrSet5 _ _ _ _ _ n2⟩
  · rw [qrUpd_ne h3, qrUpd_ne h4]
    exact fun h5 => ⟨(h.q4 h5).1, (K.block _ (heap_lt (h.q4 h5).2) (by simpa using fun e => h.ne ha h5 e.symm)).trans (h.q4 h5).2⟩
theorem QW.storeB (h : QW c a b x y W0 As cs p s l w) (hd : c ≠ y ∧ a ≠ y ∧ b ≠ y ∧ x ≠ y) (hb : l b = true) (hy : l y = false) :
    QW c a b x y W0 As cs p s (upd l y) (((((w.setCell ⟨s.b14, 0, none⟩ (.slice s.Ap p.steps.length s.cp)).setCell ⟨s.b14, 1, none⟩ (.int .i64 p.hold)).setCell ⟨s.b14, 2, none⟩ (.int .i64 p.calm)).setCell ⟨s.b14, 3, none⟩ (.int .i64 p.notice)).setCell ⟨s.b14, 4, none⟩ (.int .i64 p.grace)) := by
  obtain ⟨h1, h2, h3, h4⟩ := hd
  obtain ⟨n1, n2⟩ := h.q4 hb
  rw [hy] at n2
  have K := qrKeep5 (S := [s.b14]) (w := w) (g := s.b14) (.slice s.Ap p.steps.length s.cp) (.int .i64 p.hold) (.int .i64 p.calm) (.int .i64 p.notice) (.int .i64 p.grace) (.inl (by simp))
  refine ⟨h.bel.trans (K.below h.bel.size (by simp; exact n1)), ?_, ?_, ?_, by rw [qrUpd_ne h2, qrUpd_ne h3]; exact h.ne⟩
  · rw [qrUpd_ne h1, qrUpd_ne h2, qrUpd_ne h3]
    intro h5
    obtain ⟨p1, p2, p3⟩ := h.pr h5
    by_cases hn : p.steps.length = 0
    · refine ⟨⟨p1.1, fun h => by omega⟩, p2, p3⟩
    · exact ⟨K.rd p1 (fun g o e => by simpa using (p3 g o e hn).2 hb), p2, p3⟩
  · rw [qrUpd_ne h2, qrUpd_ne h4]
    exact fun h5 => ⟨(h.q3 h5).1, (K.block _ (heap_lt (h.q3 h5).2) (by simpa using fun e => h.ne h5 hb e)).trans (h.q3 h5).2⟩
  · rw [qrUpd_eq]
    exact fun _ => ⟨n1, qrSet5 _ _ _ _ _ n2⟩
theorem QW.fin (h : QW c a b x y W0 As cs p s l w) (hc : l c = true) (ha : l a = true) (hb : l b = true) (hx : l x = true) (hy : l y = true) : QR W0 w s.b13 s.b14 As cs p s.Ap s.cp := by
  obtain ⟨p1, p2, p3⟩ := h.pr hc
  obtain ⟨n1, n2⟩ := h.q3 ha
  obtain ⟨m1, m2⟩ := h.q4 hb
  rw [hx] at n2
  rw [hy] at m2
  exact ⟨n2, m2, p1, p2, h.bel, ⟨n1, m1, h.ne ha hb⟩, fun g o e hn => (p3 g o e hn).1 ha⟩
theorem qrZero {w : World} {g : Nat} {t : TypeId} (h : w.heap[g]? = some (.cells qrZpol t (0, 0))) :
    (w.cell? ⟨g, 0, none⟩ = some (.slice none 0 0) ∧ w.cell? ⟨g, 1, none⟩ = some (.int .i64 0) ∧ w.cell? ⟨g, 2, none⟩ = some (.int .i64 0) ∧ w.cell? ⟨g, 3, none⟩ = some (.int .i64 0) ∧ w.cell? ⟨g, 4, none⟩ = some (.int .i64 0)) ∧ (w.frozen? ⟨g, 0, none⟩ = false ∧ w.frozen? ⟨g, 1, none⟩ = false ∧ w.frozen? ⟨g, 2, none⟩ = false ∧ w.frozen? ⟨g, 3, none⟩ = false ∧ w.frozen? ⟨g, 4, none⟩ = false) :=
  ⟨⟨(cell_of_heap h 0).trans rfl, (cell_of_heap h 1).trans rfl, (cell_of_heap h 2).trans rfl, (cell_of_heap h 3).trans rfl, (cell_of_heap h 4).trans rfl⟩, frozen_of_heap h 0, frozen_of_heap h 1, frozen_of_heap h 2, frozen_of_heap h 3, frozen_of_heap h 4⟩
end
end Go.Proofs.YtbgnkljjgfcngaaGreat
/- polynyaref08: begun, vessel, fulfils -/
namespace Go.Proofs.YtbgnkljjgfcngaaGreat
open Go Go.RowKit Sp
set_option linter.unusedVariables false

theorem start_ck {p : Pol} {days : List Int} (h : checkS p ≠ 0) : startS p days = checkS p := by unfold startS; rw [if_pos h]
theorem start_many {p : Pol} {days : List Int} (h : checkS p = 0) (hl : (400 : Int) < days.length) : startS p days = 2 := by unfold startS; rw [if_neg (fun f => f h), if_pos hl]
theorem start_bad {p : Pol} {days : List Int} (h : checkS p = 0) (hl : (days.length : Int) ≤ 400) {k : Nat} (hk : k < days.length) (hb : within (days.getD k 0) 0 2000 = false) : startS p days = 6 := by
  unfold startS
  rw [if_neg (fun f => f h), if_neg (by omega), if_pos]
  refine List.any_eq_true.2 ⟨days[k], List.getElem_mem hk, ?_⟩
  rw [List.getD_eq_getElem?_getD, List.getElem?_eq_getElem hk, Option.getD_some] at hb
  rw [hb]; rfl
theorem start_all {p : Pol} {days : List Int} (h : checkS p = 0) (hl : (days.length : Int) ≤ 400) (hb : ∀ k, k < days.length → within (days.getD k 0) 0 2000 = true) : startS p days = 0 := by
  unfold startS
  rw [if_neg (fun f => f h), if_neg (by omega), if_neg]
  intro h1
  obtain ⟨x, h2, h3⟩ := List.any_eq_true.1 h1
  obtain ⟨i, hi, rfl⟩ := List.mem_iff_getElem.1 h2
  have := hb i hi
  rw [List.getD_eq_getElem?_getD, List.getElem?_eq_getElem hi, Option.getD_some] at this
  rw [this] at h3; cases h3

set_option maxRecDepth 100000 in
set_option maxHeartbeats 2000000 in
theorem begun_any (As : Option Addr) (cs : Nat) (p : Pol) (A : Option Addr) (c : Nat) (days : List Int) (w : World) (hp : PolV w As cs p) (hr : Rd w 1 A days.length (ints days)) (hm : days.length ≤ 9223372036854775807) :
    Calls Tryz.prog 76 #[.agg #[.slice As p.steps.length cs, .int .i64 p.hold, .int .i64 p.calm, .int .i64 p.notice, .int .i64 p.grace], .slice A days.length c] w fun e w' => e = .returned (.int .i64 (startS p days)) ∧ Below w.heap.size w w' := by
  obtain ⟨er, her⟩ : ∃ er, er = checkS p := ⟨_, rfl⟩
  have b0 : ∀ o, Below w.heap.size w (w.alloc o) := fun o => (Below.refl _ _).alloc (Nat.le_refl _) _
  have hck : ∀ o, Calls Tryz.prog 14 #[.agg #[.slice As p.steps.length cs, .int .i64 p.hold, .int .i64 p.calm, .int .i64 p.notice, .int .i64 p.grace]] (w.alloc o) fun e w' => e = .returned (.int .i64 er) ∧ Below w.heap.size w w' := by
    intro o
    refine (rcheck_any As cs p (w.alloc o) ⟨hp.1, hp.2.1, hp.2.2.below (b0 _)⟩).mono ?_
    rintro e w1 ⟨rfl, hB⟩
    exact ⟨by rw [her], (b0 _).trans (hB.mono (by simp))⟩
  have HP := Lib.hid (And.intro her (And.intro hr hck))
  clear her hck hr b0 hp
  go_enter Tryz.func76, Tryz.ntmps76
  go_wp2_with fail
  refine (HP.out.2.2 _).mono ?_
  rintro e w1 ⟨rfl, hB⟩
  have HB := Lib.hid (And.intro hB (HP.out.2.1.below hB))
  clear hB
  by_cases h0 : er = 0
  · subst h0
    by_cases hmany : 400 < days.length
    · have hmany' : (400 : Int) < (days.length : Int) := by omega
      go_wp2_with fail
      go_ret
      exact ⟨by rw [start_many HP.out.1.symm hmany']; rfl, HB.out.1⟩
    · go_wp2_with fail
      go_loopg [6] (days.length) (fun g i wr => ∃ k : Nat, g + k = days.length ∧ i = .int .i64 k ∧ (∀ j, j < k → within (days.getD j 0) 0 2000 = true) ∧ w1 = wr)
      case atStart => exact ⟨0, rfl, rfl, fun j h => absurd h (by omega), rfl⟩
      case round =>
        obtain ⟨k, hk, rfl, hok, rfl⟩ := hrel
        have HK := Lib.hid hok
        clear hok
        by_cases hlt : k < days.length
        · obtain ⟨b, off, rfl, hb, hc⟩ := HB.out.2.2 (by omega)
          obtain ⟨x, hx⟩ : ∃ x, x = days.getD k 0 := ⟨_, rfl⟩
          have ck : w1.cell? ⟨b, off + k, none⟩ = some (.int .i64 x) := by rw [hx]; exact hc k _ (ints_get hlt)
          obtain ⟨dx, hdx⟩ : ∃ d, d = within x 0 2000 := ⟨_, rfl⟩
          have hin : ∀ wx, Calls Tryz.prog 72 #[.int .i64 x, .int .i64 0, .int .i64 2000] wx fun e w' => e = .returned (.bool dx) ∧ wx = w' := fun wx => by rw [hdx]; exact rin_any _ _ _ wx
          have HD := Lib.hid (And.intro hdx (And.intro hin hx))
          clear hdx hin hx hc
          cases dx
          · go_wp2_with (go_at_call 72; refine (HD.out.2.1 _).mono ?_; rintro e w' ⟨rfl, rfl⟩)
            go_ret
            exact ⟨by rw [start_bad HP.out.1.symm (by omega) hlt (by rw [← HD.out.2.2, ← HD.out.1])]; rfl, HB.out.1⟩
          · go_wp2_with (go_at_call 72; refine (HD.out.2.1 _).mono ?_; rintro e w' ⟨rfl, rfl⟩)
            go_roundg (gk - 1)
            case measure => omega
            case rel => exact ⟨k + 1, by omega, by go_num, fun j hj => by
              by_cases e : j = k
              · subst e; rw [← HD.out.2.2, ← HD.out.1]
              · exact HK.out j (by omega), rfl⟩
        · obtain rfl : k = days.length := by omega
          go_wp2_with fail
          go_ret
          exact ⟨by rw [start_all HP.out.1.symm (by omega) HK.out]; rfl, HB.out.1⟩
  · have hne : (er != 0) = true := by simp [h0]
    have HK := Lib.hid h0
    clear h0
    go_wp2_with fail
    go_ret
    exact ⟨by rw [start_ck (by rw [← HP.out.1]; exact HK.out), ← HP.out.1]; rfl, HB.out.1⟩

theorem rvessel_any (v : Ves) (w : World) :
    Calls Tryz.prog 90 #[.agg #[.int .i64 v.cls, .int .i64 v.ton, .bool v.esc]] w fun e w' => e = .returned (.bool (vright v)) ∧ Below w.heap.size w w' := by
  go_enter Tryz.func90, Tryz.ntmps90
  go_wp2_with (go_at_call 72; refine (rin_any _ _ _ _).mono ?_; rintro e w' ⟨rfl, rfl⟩)
  all_goals
    go_ret
    exact ⟨by simp [vright, *], (Below.refl _ _).alloc (Nat.le_refl _) _⟩

set_option maxHeartbeats 1000000 in
theorem rfulfils_any (v : Ves) (s : Stp) (w : World) (hv : -1000000000 ≤ v.cls ∧ v.cls ≤ 1000000000) :
    Calls Tryz.prog 87 #[.agg #[.int .i64 v.cls, .int .i64 v.ton, .bool v.esc], .agg #[.int .i64 s.cls, .int .i64 s.ton, .int .i64 s.up, .int .i64 s.dn]] w fun e w' => e = .returned (.bool (fulfils v s)) ∧ Below w.heap.size w w' := by
  obtain ⟨vc, vt, ve⟩ := v
  obtain ⟨sc, st, su, sd⟩ := s
  simp only at hv ⊢
  have b : ∀ o o', Below w.heap.size w ((w.alloc o).alloc o') := fun o o' => ((Below.refl _ _).alloc (Nat.le_refl _) _).alloc (by simp) _
  have HB := Lib.hid b
  clear b
  by_cases h1 : vt < st
  · go_enter Tryz.func87, Tryz.ntmps87
    go_wp2_with fail
    go_ret
    exact ⟨by rw [show fulfils ⟨vc, vt, ve⟩ ⟨sc, st, su, sd⟩ = false from by simp [fulfils]; omega]; rfl, HB.out _ _⟩
  · by_cases h2 : sc ≤ vc
    · go_enter Tryz.func87, Tryz.ntmps87
      go_wp2_with fail
      go_ret
      exact ⟨by rw [show fulfils ⟨vc, vt, ve⟩ ⟨sc, st, su, sd⟩ = true from by cases ve <;> simp [fulfils] <;> omega]; rfl, HB.out _ _⟩
    · cases ve
      · go_enter Tryz.func87, Tryz.ntmps87
        go_wp2_with fail
        go_ret
        exact ⟨by rw [show fulfils ⟨vc, vt, false⟩ ⟨sc, st, su, sd⟩ = false from by simp [fulfils]; omega]; rfl, HB.out _ _⟩
      · by_cases h3 : vc + 1 = sc
        · subst h3
          go_enter Tryz.func87, Tryz.ntmps87
          go_wp2_with fail
          go_ret
          exact ⟨by rw [show fulfils ⟨vc, vt, true⟩ ⟨vc + 1, st, su, sd⟩ = true from by simp [fulfils]; omega]; rfl, HB.out _ _⟩
        · have h4 : (vc + 1 == sc) = false := by simpa using h3
          go_enter Tryz.func87, Tryz.ntmps87
          go_wp2_with fail
          go_ret
          exact ⟨by rw [show fulfils ⟨vc, vt, true⟩ ⟨sc, st, su, sd⟩ = false from by simp [fulfils]; omega]; rfl, HB.out _ _⟩
end Go.Proofs.YtbgnkljjgfcngaaGreat
/- What a window yields: the least (or greatest) of the last numbers. No program is named here. -/
namespace Go.Proofs.YtbgnkljjgfcngaaGreat.Sp

/-- a comes first, or is as good as b -/
def lead (gr : Bool) (a b : Int) : Prop := if gr then b ≤ a else a ≤ b
theorem lead_trans {gr : Bool} {a b c : Int} (h : lead gr a b) (k : lead gr b c) : lead gr a c := by
  unfold lead at *; cases gr <;> simp at * <;> omega
theorem lead_refl (gr : Bool) (a : Int) : lead gr a a := by unfold lead; cases gr <;> simp
theorem drop_iff {gr : Bool} {v x : Int} : (((v == x) || (decide (x < v) != gr)) = true) ↔ lead gr x v := by
  unfold lead; cases gr <;> simp <;> omega
theorem drop_not {gr : Bool} {v x : Int} (h : ¬ (((v == x) || (decide (x < v) != gr)) = true)) : lead gr v x := by
  unfold lead; cases gr <;> simp at * <;> omega

theorem popLen_le (gr : Bool) (x : Int) (V : List Int) : ∀ k, popLen gr x V k ≤ k
  | 0 => Nat.le_refl _
  | k + 1 => by
    unfold popLen; split
    · have := popLen_le gr x V k; omega
    · omega
theorem popLen_dropped (gr : Bool) (x : Int) (V : List Int) : ∀ k j, popLen gr x V k ≤ j → j < k → lead gr x (V.getD j 0)
  | 0, j, _, h => absurd h (by omega)
  | k + 1, j, h, hj => by
    unfold popLen at h
    split at h
    · rename_i hc
      by_cases e : j = k
      · subst e; exact drop_iff.1 hc
      · exact popLen_dropped gr x V k j h (by omega)
    · omega
theorem popLen_last (gr : Bool) (x : Int) (V : List Int) : ∀ k m, popLen gr x V k = m + 1 → lead gr (V.getD m 0) x
  | 0, m, h => by simp [popLen] at h
  | k + 1, m, h => by
    unfold popLen at h
    split at h
    · exact popLen_last gr x V k m h
    · rename_i hc
      obtain rfl : k = m := by omega
      exact drop_not hc

/-- what a window keeps behind n numbers -/
structure WInv (wide : Int) (gr : Bool) (xs : List Int) (n : Nat) (D : List (Int × Int)) : Prop where
  at_ : ∀ e ∈ D, ∃ i : Nat, e.2 = i ∧ i < n ∧ (n : Int) - wide ≤ i ∧ e.1 = xs.getD i 0
  sorted : D.Pairwise fun a b => a.2 < b.2 ∧ lead gr a.1 b.1
  all : ∀ j : Nat, j < n → (n : Int) - wide ≤ j → ∃ e ∈ D, (j : Int) ≤ e.2 ∧ lead gr e.1 (xs.getD j 0)

theorem wInv_push {wide : Int} {gr : Bool} {xs : List Int} {n : Nat} {D : List (Int × Int)} (hw : 1 ≤ wide) (h : WInv wide gr xs n D) : WInv wide gr xs (n + 1) (pushD wide n gr D (xs.getD n 0)) := by
  obtain ⟨x, hx⟩ : ∃ x, x = xs.getD n 0 := ⟨_, rfl⟩
  rw [← hx]
  obtain ⟨m, hm⟩ : ∃ m, m = popLen gr x (D.map (·.1)) D.length := ⟨_, rfl⟩
  have hml : m ≤ D.length := by rw [hm]; exact popLen_le _ _ _ _
  have hV : ∀ i, (hi : i < D.length) → (D.map (·.1)).getD i 0 = (D[i]).1 := fun i hi => by simp [hi]
  -- before the first one is struck
  obtain ⟨D1, hD1⟩ : ∃ D1, D1 = D.take m ++ [(x, (n : Int))] := ⟨_, rfl⟩
  have hlead : ∀ e ∈ D.take m, lead gr e.1 x := by
    intro e he
    obtain ⟨i, hi, rfl⟩ := List.mem_iff_getElem.1 he
    have hi' : i < m ∧ i < D.length := by rw [List.length_take] at hi; omega
    rw [List.getElem_take]
    obtain ⟨m', rfl⟩ : ∃ m', m = m' + 1 := ⟨m - 1, by omega⟩
    have h1 := popLen_last gr x (D.map (·.1)) D.length m' hm.symm
    rw [hV m' (by omega)] at h1
    by_cases e : i = m'
    · subst e; exact h1
    · exact lead_trans ((List.pairwise_iff_getElem.1 h.sorted) i m' hi'.2 (by omega) (by omega)).2 h1
  have hs1 : D1.Pairwise fun a b => a.2 < b.2 ∧ lead gr a.1 b.1 := by
    rw [hD1, List.pairwise_append]
    refine ⟨h.sorted.sublist (List.take_sublist _ _), by simp, fun a ha b hb => ?_⟩
    obtain rfl : b = (x, (n : Int)) := by simpa using hb
    obtain ⟨i, h1, h2, _⟩ := h.at_ a (List.mem_of_mem_take ha)
    exact ⟨by rw [h1]; exact Int.ofNat_lt.2 h2, hlead a ha⟩
  have ha1 : ∀ e ∈ D1, ∃ i : Nat, e.2 = i ∧ i < n + 1 ∧ (n : Int) - wide ≤ i ∧ e.1 = xs.getD i 0 := by
    intro e he
    rw [hD1] at he
    rcases List.mem_append.1 he with he | he
    · obtain ⟨i, h1, h2, h3, h4⟩ := h.at_ e (List.mem_of_mem_take he)
      exact ⟨i, h1, by omega, h3, h4⟩
    · obtain rfl : e = (x, (n : Int)) := by simpa using he
      exact ⟨n, rfl, by omega, by omega, hx⟩
  have hl1 : ∀ j : Nat, j < n + 1 → (n : Int) + 1 - wide ≤ j → ∃ e ∈ D1, (j : Int) ≤ e.2 ∧ lead gr e.1 (xs.getD j 0) := by
    intro j hj hw'
    by_cases e : j = n
    · subst e
      exact ⟨(x, (j : Int)), by rw [hD1]; simp, Int.le_refl _, by rw [hx]; exact lead_refl _ _⟩
    · obtain ⟨e, he, h1, h2⟩ := h.all j (by omega) (by omega)
      obtain ⟨i, hi, rfl⟩ := List.mem_iff_getElem.1 he
      by_cases him : i < m
      · refine ⟨D[i], ?_, h1, h2⟩
        rw [hD1]
        refine List.mem_append.2 (.inl ?_)
        exact List.mem_iff_getElem.2 ⟨i, by rw [List.length_take]; omega, by simp⟩
      · refine ⟨(x, (n : Int)), by rw [hD1]; simp, by simp; omega, lead_trans ?_ h2⟩
        have := popLen_dropped gr x (D.map (·.1)) D.length i (by omega) hi
        rwa [hV i hi] at this
  have hne : D1 ≠ [] := by rw [hD1]; simp
  have hp : pushD wide n gr D x = if (D1.headD (0, 0)).2 ≤ (n : Int) - wide then D1.tail else D1 := by
    rw [hD1, hm]; rfl
  rw [hp]
  obtain ⟨a, t, hat⟩ := List.exists_cons_of_ne_nil hne
  have hp2 : (if (D1.headD (0, 0)).2 ≤ (n : Int) - wide then D1.tail else D1) = if a.2 ≤ (n : Int) - wide then t else a :: t := by rw [hat]; rfl
  rw [hp2]
  rw [hat] at hs1 ha1 hl1
  by_cases hc : a.2 ≤ (n : Int) - wide
  · rw [if_pos hc]
    refine ⟨fun e he => ?_, (List.pairwise_cons.1 hs1).2, fun j hj hw' => ?_⟩
    · obtain ⟨i, h1, h2, h3, h4⟩ := ha1 e (by simp [he])
      have h5 := ((List.pairwise_cons.1 hs1).1 e he).1
      obtain ⟨i', g1, g2, g3, g4⟩ := ha1 a (by simp)
      exact ⟨i, h1, h2, by rw [h1, g1] at h5; omega, h4⟩
    · obtain ⟨e, he, h1, h2⟩ := hl1 j hj (by omega)
      rcases List.mem_cons.1 he with rfl | he
      · omega
      · exact ⟨e, he, h1, h2⟩
  · rw [if_neg hc]
    refine ⟨fun e he => ?_, hs1, fun j hj hw' => hl1 j hj (by omega)⟩
    obtain ⟨i, h1, h2, h3, h4⟩ := ha1 e he
    refine ⟨i, h1, h2, ?_, h4⟩
    rcases List.mem_cons.1 he with rfl | he
    · rw [h1] at hc; omega
    · have h5 := ((List.pairwise_cons.1 hs1).1 e he).1
      rw [h1] at h5; omega

theorem wInv_dq {wide : Int} (hw : 1 ≤ wide) (gr : Bool) (xs : List Int) : ∀ n, WInv wide gr xs n (dq wide gr xs n)
  | 0 => ⟨by simp [dq], by simp [dq], fun j h => absurd h (by omega)⟩
  | n + 1 => wInv_push hw (wInv_dq hw gr xs n)

theorem slide_get (wide : Int) (gr : Bool) (xs : List Int) {k : Nat} (hk : k < xs.length) : (slide wide gr xs).getD k 0 = headV (dq wide gr xs (k + 1)) := by
  simp [slide, slideN, hk]

theorem slide_is {wide : Int} (hw : 1 ≤ wide) (gr : Bool) (xs : List Int) {k : Nat} (hk : k < xs.length) : ∃ j : Nat, j ≤ k ∧ (k : Int) + 1 - wide ≤ j ∧ (slide wide gr xs).getD k 0 = xs.getD j 0 := by
  have h := wInv_dq hw gr xs (k + 1)
  rw [slide_get wide gr xs hk]
  obtain ⟨e, he, _⟩ := h.all k (by omega) (by omega)
  obtain ⟨a, t, hat⟩ := List.exists_cons_of_ne_nil (List.ne_nil_of_mem he)
  obtain ⟨i, h1, h2, h3, h4⟩ := h.at_ a (by rw [hat]; simp)
  exact ⟨i, by omega, by omega, by rw [hat]; exact h4⟩
theorem slide_leads {wide : Int} (hw : 1 ≤ wide) (gr : Bool) (xs : List Int) {k : Nat} (hk : k < xs.length) {j : Nat} (hj : j ≤ k) (hj' : (k : Int) + 1 - wide ≤ j) : lead gr ((slide wide gr xs).getD k 0) (xs.getD j 0) := by
  have h := wInv_dq hw gr xs (k + 1)
  rw [slide_get wide gr xs hk]
  obtain ⟨e, he, _, h2⟩ := h.all j (by omega) (by omega)
  obtain ⟨a, t, hat⟩ := List.exists_cons_of_ne_nil (List.ne_nil_of_mem he)
  have hs := h.sorted
  rw [hat] at he hs ⊢
  refine lead_trans ?_ h2
  rcases List.mem_cons.1 he with rfl | he
  · exact lead_refl _ _
  · exact ((List.pairwise_cons.1 hs).1 e he).2
/-- the least of the last numbers -/
theorem slide_least {wide : Int} (hw : 1 ≤ wide) (xs : List Int) {k : Nat} (hk : k < xs.length) {j : Nat} (hj : j ≤ k) (hj' : (k : Int) + 1 - wide ≤ j) : (slide wide false xs).getD k 0 ≤ xs.getD j 0 := by
  simpa [lead] using slide_leads hw false xs hk hj hj'
theorem slide_most {wide : Int} (hw : 1 ≤ wide) (xs : List Int) {k : Nat} (hk : k < xs.length) {j : Nat} (hj : j ≤ k) (hj' : (k : Int) + 1 - wide ≤ j) : xs.getD j 0 ≤ (slide wide true xs).getD k 0 := by
  simpa [lead] using slide_leads hw true xs hk hj hj'
theorem le_slide {wide : Int} (hw : 1 ≤ wide) (xs : List Int) {k : Nat} (hk : k < xs.length) {m : Int} (h : ∀ j : Nat, j ≤ k → (k : Int) + 1 - wide ≤ j → m ≤ xs.getD j 0) : m ≤ (slide wide false xs).getD k 0 := by
  obtain ⟨j, h1, h2, h3⟩ := slide_is hw false xs hk
  rw [h3]; exact h j h1 h2
theorem slide_le {wide : Int} (hw : 1 ≤ wide) (xs : List Int) {k : Nat} (hk : k < xs.length) {m : Int} (h : ∀ j : Nat, j ≤ k → (k : Int) + 1 - wide ≤ j → xs.getD j 0 ≤ m) : (slide wide true xs).getD k 0 ≤ m := by
  obtain ⟨j, h1, h2, h3⟩ := slide_is hw true xs hk
  rw [h3]; exact h j h1 h2
end Go.Proofs.YtbgnkljjgfcngaaGreat.Sp
