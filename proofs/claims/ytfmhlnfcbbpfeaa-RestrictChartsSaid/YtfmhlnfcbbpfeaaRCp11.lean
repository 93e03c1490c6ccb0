/- lists of structs that are the same: true (printed by wip/tools/same.py) -/
import Derived.Test.YtfmhlnfcbbpfeaaRCp10
import Derived.Test.YtfmhlnfcbbpfeaaRCp8
import Derived.Test.YtfmhlnfcbbpfeaaRCp6
import Derived.Test.YtfmhlnfcbbpfeaaRCp1
import Derived.Deep.RegionHeld3
import Derived.IntWalk
set_option linter.unusedVariables false
namespace Go.Proofs.Ytfmhlnfcbbpfeaa
open Go Go.RowKit Sp
set_option linter.unusedVariables false

theorem sameRStp (x : Stp) (w : World) : (binOp .neq 161 (.agg #[.int .i64 x.cls, .int .i64 x.ton, .int .i64 x.up, .int .i64 x.dn]) (.agg #[.int .i64 x.cls, .int .i64 x.ton, .int .i64 x.up, .int .i64 x.dn])).run Try.prog w = .ok (.bool false) w := by
  have u3 := Try.underlying3
  have a3 := Try.isAgg3
  have z3 := Try.sizeOf3
  have hS : Try.prog.underlying 161 = some (.struct (Try.prog.fieldsOf 161)) := by kernel_rfl
  have hp : Try.prog.stoodInHeld 161 = false := by kernel_rfl
  rw [run_neq_struct, show (10000 : Nat) = 9999 + 1 from rfl, run_equalIn_agg w 9999 161 _ _ hS hp]
  simp only [Program.fieldsOf, Try.underlying161]
  go_simp

set_option maxHeartbeats 1000000 in
theorem eqRStp_same (A : Option Addr) (c : Nat) (l : List Stp) (B : Option Addr) (d : Nat) (w : World) (hr : Rd w 4 A l.length (stcs l)) (hr2 : Rd w 4 B l.length (stcs l)) (hm : l.length ≤ 9223372036854775807) :
    Calls Try.prog 97 #[.slice A l.length c, .slice B l.length d] w fun e w' => e = .returned (.bool true) ∧ Below w.heap.size w w' := by
  go_enter Try.func97, Try.ntmps97
  go_wp2_with fail
  go_loopg [13] (l.length) (fun g i wr => ∃ k : Nat, g + k = l.length ∧ i = .int .i64 k ∧ Keep [] w wr)
  case atStart => exact ⟨0, rfl, rfl, Keep.refl _ _⟩
  case round =>
    obtain ⟨k, hk, rfl, hK⟩ := hrel
    have HB := Lib.hid hK
    by_cases hlt : k < l.length
    · obtain ⟨b, off, rfl, hbb, hc⟩ := hr.2 (by omega)
      obtain ⟨b2, off2, rfl, hbb2, hc2⟩ := hr2.2 (by omega)
      obtain ⟨x, hx'⟩ : ∃ x, x = l[k] := ⟨_, rfl⟩
      obtain ⟨s0, s1, s2, s3⟩ := stcs_get hlt
      rw [← hx'] at s0 s1 s2 s3
      have bk : ∀ o u, w.cell? ⟨b, o, none⟩ = some u → wr.cell? ⟨b, o, none⟩ = some u := fun o u h => hK.cell h (by simp)
      have bk2 : ∀ o u, w.cell? ⟨b2, o, none⟩ = some u → wr.cell? ⟨b2, o, none⟩ = some u := fun o u h => hK.cell h (by simp)
      have c0 := bk (off + k*4) _ (hc _ _ s0)
      have d0 := bk2 (off2 + k*4) _ (hc2 _ _ s0)
      have c1 := bk (off + k*4 + 1) _ (hc _ _ s1)
      have d1 := bk2 (off2 + k*4 + 1) _ (hc2 _ _ s1)
      have c2 := bk (off + k*4 + 2) _ (hc _ _ s2)
      have d2 := bk2 (off2 + k*4 + 2) _ (hc2 _ _ s2)
      have c3 := bk (off + k*4 + 3) _ (hc _ _ s3)
      have d3 := bk2 (off2 + k*4 + 3) _ (hc2 _ _ s3)
      clear bk bk2 s0 s1 s2 s3
      have hkI : (0 : Int) ≤ (k : Int) ∧ (k : Int) < (l.length : Int) := by omega
      clear hx' hK hc hc2 hr hr2
      have hne : ∀ w, (binOp .neq 161 (.agg #[.int .i64 x.cls, .int .i64 x.ton, .int .i64 x.up, .int .i64 x.dn]) (.agg #[.int .i64 x.cls, .int .i64 x.ton, .int .i64 x.up, .int .i64 x.dn])).run Try.prog w = .ok (.bool false) w := fun w => sameRStp x w
      go_upto_region 6 with fail
      go_quiet (fail)
      go_wp2_with fail
      go_roundg (gk - 1)
      case measure => omega
      case rel => exact ⟨k + 1, by omega, by go_num, HB.out.drewN _⟩
    · obtain rfl : k = l.length := by omega
      clear hK
      go_wp2_with fail
      go_ret
      exact ⟨rfl, HB.out.below (Nat.le_refl _) (by simp)⟩

theorem samePsg (x : Psg) (w : World) : (binOp .neq 35 (.agg #[.int .i64 x.ves.cls, .int .i64 x.ves.ton, .bool x.ves.esc, .int .i64 x.ent, .int .i64 x.lea]) (.agg #[.int .i64 x.ves.cls, .int .i64 x.ves.ton, .bool x.ves.esc, .int .i64 x.ent, .int .i64 x.lea])).run Try.prog w = .ok (.bool false) w := by
  have u3 := Try.underlying3
  have a3 := Try.isAgg3
  have z3 := Try.sizeOf3
  have u4 := Try.underlying4
  have a4 := Try.isAgg4
  have z4 := Try.sizeOf4
  have nu0 := Try.underlying33
  have na0 := Try.isAgg33
  have nz0 := Try.sizeOf33
  have nS0 : Try.prog.underlying 33 = some (.struct (Try.prog.fieldsOf 33)) := by kernel_rfl
  have np0 : Try.prog.stoodInHeld 33 = false := by kernel_rfl
  have hS : Try.prog.underlying 35 = some (.struct (Try.prog.fieldsOf 35)) := by kernel_rfl
  have hp : Try.prog.stoodInHeld 35 = false := by kernel_rfl
  rw [run_neq_struct, show (10000 : Nat) = 9999 + 1 from rfl, run_equalIn_agg w 9999 35 _ _ hS hp]
  simp only [Program.fieldsOf, Try.underlying35]
  go_simp

set_option maxHeartbeats 1000000 in
theorem eqPsg_same (A : Option Addr) (c : Nat) (l : List Psg) (B : Option Addr) (d : Nat) (w : World) (hr : Rd w 5 A l.length (pscs l)) (hr2 : Rd w 5 B l.length (pscs l)) (hm : l.length ≤ 9223372036854775807) :
    Calls Try.prog 54 #[.slice A l.length c, .slice B l.length d] w fun e w' => e = .returned (.bool true) ∧ Below w.heap.size w w' := by
  go_enter Try.func54, Try.ntmps54
  go_wp2_with fail
  go_loopg [13] (l.length) (fun g i wr => ∃ k : Nat, g + k = l.length ∧ i = .int .i64 k ∧ Keep [] w wr)
  case atStart => exact ⟨0, rfl, rfl, Keep.refl _ _⟩
  case round =>
    obtain ⟨k, hk, rfl, hK⟩ := hrel
    have HB := Lib.hid hK
    by_cases hlt : k < l.length
    · obtain ⟨b, off, rfl, hbb, hc⟩ := hr.2 (by omega)
      obtain ⟨b2, off2, rfl, hbb2, hc2⟩ := hr2.2 (by omega)
      obtain ⟨x, hx'⟩ : ∃ x, x = l[k] := ⟨_, rfl⟩
      obtain ⟨s0, s1, s2, s3, s4⟩ := pscs_get hlt
      rw [← hx'] at s0 s1 s2 s3 s4
      have bk : ∀ o u, w.cell? ⟨b, o, none⟩ = some u → wr.cell? ⟨b, o, none⟩ = some u := fun o u h => hK.cell h (by simp)
      have bk2 : ∀ o u, w.cell? ⟨b2, o, none⟩ = some u → wr.cell? ⟨b2, o, none⟩ = some u := fun o u h => hK.cell h (by simp)
      have c0 := bk (off + k*5) _ (hc _ _ s0)
      have d0 := bk2 (off2 + k*5) _ (hc2 _ _ s0)
      have c1 := bk (off + k*5 + 1) _ (hc _ _ s1)
      have d1 := bk2 (off2 + k*5 + 1) _ (hc2 _ _ s1)
      have c2 := bk (off + k*5 + 2) _ (hc _ _ s2)
      have d2 := bk2 (off2 + k*5 + 2) _ (hc2 _ _ s2)
      have c3 := bk (off + k*5 + 3) _ (hc _ _ s3)
      have d3 := bk2 (off2 + k*5 + 3) _ (hc2 _ _ s3)
      have c4 := bk (off + k*5 + 4) _ (hc _ _ s4)
      have d4 := bk2 (off2 + k*5 + 4) _ (hc2 _ _ s4)
      clear bk bk2 s0 s1 s2 s3 s4
      have hkI : (0 : Int) ≤ (k : Int) ∧ (k : Int) < (l.length : Int) := by omega
      clear hx' hK hc hc2 hr hr2
      have hne : ∀ w, (binOp .neq 35 (.agg #[.int .i64 x.ves.cls, .int .i64 x.ves.ton, .bool x.ves.esc, .int .i64 x.ent, .int .i64 x.lea]) (.agg #[.int .i64 x.ves.cls, .int .i64 x.ves.ton, .bool x.ves.esc, .int .i64 x.ent, .int .i64 x.lea])).run Try.prog w = .ok (.bool false) w := fun w => samePsg x w
      go_upto_region 6 with fail
      go_quiet (fail)
      go_wp2_with fail
      go_roundg (gk - 1)
      case measure => omega
      case rel => exact ⟨k + 1, by omega, by go_num, HB.out.drewN _⟩
    · obtain rfl : k = l.length := by omega
      clear hK
      go_wp2_with fail
      go_ret
      exact ⟨rfl, HB.out.below (Nat.le_refl _) (by simp)⟩

theorem sameSpn (x : (Int × Int)) (w : World) : (binOp .neq 42 (.agg #[.int .i64 x.1, .int .i64 x.2]) (.agg #[.int .i64 x.1, .int .i64 x.2])).run Try.prog w = .ok (.bool false) w := by
  have u3 := Try.underlying3
  have a3 := Try.isAgg3
  have z3 := Try.sizeOf3
  have hS : Try.prog.underlying 42 = some (.struct (Try.prog.fieldsOf 42)) := by kernel_rfl
  have hp : Try.prog.stoodInHeld 42 = false := by kernel_rfl
  rw [run_neq_struct, show (10000 : Nat) = 9999 + 1 from rfl, run_equalIn_agg w 9999 42 _ _ hS hp]
  simp only [Program.fieldsOf, Try.underlying42]
  go_simp

set_option maxHeartbeats 1000000 in
theorem eqSpn_same (A : Option Addr) (c : Nat) (l : List (Int × Int)) (B : Option Addr) (d : Nat) (w : World) (hr : Rd w 2 A l.length (spcs l)) (hr2 : Rd w 2 B l.length (spcs l)) (hm : l.length ≤ 9223372036854775807) :
    Calls Try.prog 50 #[.slice A l.length c, .slice B l.length d] w fun e w' => e = .returned (.bool true) ∧ Below w.heap.size w w' := by
  go_enter Try.func50, Try.ntmps50
  go_wp2_with fail
  go_loopg [5] (l.length) (fun g i wr => ∃ k : Nat, g + k = l.length ∧ i = .int .i64 k ∧ Keep [] w wr)
  case atStart => exact ⟨0, rfl, rfl, Keep.refl _ _⟩
  case round =>
    obtain ⟨k, hk, rfl, hK⟩ := hrel
    have HB := Lib.hid hK
    by_cases hlt : k < l.length
    · obtain ⟨b, off, rfl, hbb, hc⟩ := hr.2 (by omega)
      obtain ⟨b2, off2, rfl, hbb2, hc2⟩ := hr2.2 (by omega)
      obtain ⟨x, hx'⟩ : ∃ x, x = l[k] := ⟨_, rfl⟩
      obtain ⟨s0, s1⟩ := spcs_get hlt
      rw [← hx'] at s0 s1
      have bk : ∀ o u, w.cell? ⟨b, o, none⟩ = some u → wr.cell? ⟨b, o, none⟩ = some u := fun o u h => hK.cell h (by simp)
      have bk2 : ∀ o u, w.cell? ⟨b2, o, none⟩ = some u → wr.cell? ⟨b2, o, none⟩ = some u := fun o u h => hK.cell h (by simp)
      have c0 := bk (off + k*2) _ (hc _ _ s0)
      have d0 := bk2 (off2 + k*2) _ (hc2 _ _ s0)
      have c1 := bk (off + k*2 + 1) _ (hc _ _ s1)
      have d1 := bk2 (off2 + k*2 + 1) _ (hc2 _ _ s1)
      clear bk bk2 s0 s1
      have hkI : (0 : Int) ≤ (k : Int) ∧ (k : Int) < (l.length : Int) := by omega
      clear hx' hK hc hc2 hr hr2
      have hne : ∀ w, (binOp .neq 42 (.agg #[.int .i64 x.1, .int .i64 x.2]) (.agg #[.int .i64 x.1, .int .i64 x.2])).run Try.prog w = .ok (.bool false) w := fun w => sameSpn x w
      go_upto_region 6 with fail
      go_quiet (fail)
      go_wp2_with fail
      go_roundg (gk - 1)
      case measure => omega
      case rel => exact ⟨k + 1, by omega, by go_num, HB.out.drewN _⟩
    · obtain rfl : k = l.length := by omega
      clear hK
      go_wp2_with fail
      go_ret
      exact ⟨rfl, HB.out.below (Nat.le_refl _) (by simp)⟩
end Go.Proofs.Ytfmhlnfcbbpfeaa
/- polynyalaw08: long, Policy, same -/
namespace Go.Proofs.Ytfmhlnfcbbpfeaa
open Go Go.RowKit Sp
set_option linter.unusedVariables false

def longB (n d : Int) : Bool := decide (20 < n) || (decide (60 < d) && decide (d ≤ 400)) || decide (420 < d)
set_option maxRecDepth 100000 in
set_option maxHeartbeats 1000000 in
theorem long_any (v1 v2 v3 v4 : Value) (As : Option Addr) (n cs : Nat) (d : Int) (w : World) :
    Calls Try.prog 29 #[.agg #[.slice As n cs, v1, v2, v3, v4], .int .i64 d] w fun e w' => e = .returned (.bool (longB n d)) ∧ Below w.heap.size w w' := by
  obtain ⟨r, hr⟩ : ∃ r, r = longB n d := ⟨_, rfl⟩
  rw [← hr]
  have HR := Lib.hid hr
  clear hr
  by_cases h1 : 20 < n
  case' pos => have h1' : (20 : Int) < (n : Int) := by omega
  case' neg => have h1' : ¬ (20 : Int) < (n : Int) := by omega
  all_goals by_cases h2 : (60 : Int) < d
  all_goals by_cases h3 : d ≤ (400 : Int)
  all_goals by_cases h4 : (420 : Int) < d
  all_goals
    first
    | (exfalso; omega)
    | (go_enter Try.func29, Try.ntmps29
       go_wp2_with fail
       go_ret
       refine ⟨?_, (Below.refl _ _).alloc (Nat.le_refl _) _⟩
       rw [HR.out]
       simp [longB, h2, h3, h4] <;> omega)

theorem infoRStp : (Try.prog.info? 161).map (fun i => (i.zero, i.size, i.bytes)) = some (some (.agg #[.int .i64 0, .int .i64 0, .int .i64 0, .int .i64 0]), 4, 32) := by kernel_rfl

/-- what the loop of Policy keeps -/
structure PoSt (W wr : World) (ob : Nat) (p : Pol) (Ao : Option Addr) (k co : Nat) (q : List Nat) : Prop where
  blk : wr.heap[ob]? = some (.cells #[.slice Ao k co, .int .i64 p.hold, .int .i64 p.calm, .int .i64 p.notice, .int .i64 p.grace] 70 (0, 0))
  own : OwnS wr 161 4 Ao k co (stcs (p.steps.take k)) q
  new : ∀ g ∈ q, W.heap.size ≤ g
  keep : Keep [ob] W wr

theorem polStcs_append (l m : List Stp) : stcs (l ++ m) = stcs l ++ stcs m := by simp [stcs]
theorem PoSt.step {W wr w5 : World} {ob : Nat} {p : Pol} {Ao : Option Addr} {k co : Nat} {q : List Nat} (h : PoSt W wr ob p Ao k co q) (hob : ob < W.heap.size) {o1 o2 : Obj} {g c' : Nat} (hk : k < p.steps.length)
    (h1 : OwnS w5 161 4 (some ⟨g, 0, none⟩) (k + 1) c' (stcs (p.steps.take k) ++ stc p.steps[k]) [g]) (h2 : g ∈ q ∨ ((wr.alloc o1).alloc o2).heap.size = g) (h4 : Keep q ((wr.alloc o1).alloc o2) w5) :
    w5.heap[ob]? = some (.cells #[.slice Ao k co, .int .i64 p.hold, .int .i64 p.calm, .int .i64 p.notice, .int .i64 p.grace] 70 (0, 0)) ∧
    PoSt W (w5.setCell ⟨ob, 0, none⟩ (.slice (some ⟨g, 0, none⟩) (k + 1) c')) ob p (some ⟨g, 0, none⟩) (k + 1) c' [g] := by
  have hW := h.keep.size
  have hobq : ob ∉ q := fun hm => by have := h.new _ hm; omega
  have e5 : w5.heap[ob]? = some (.cells #[.slice Ao k co, .int .i64 p.hold, .int .i64 p.calm, .int .i64 p.notice, .int .i64 p.grace] 70 (0, 0)) :=
    (h4.block ob (by have := heap_lt h.blk; simp; omega) hobq).trans (heap_alloc' (heap_alloc' h.blk _) _)
  have hg : W.heap.size ≤ g := by
    rcases h2 with h2 | h2
    · exact h.new _ h2
    · simp at h2; omega
  refine ⟨e5, heap_set e5 0 _, ?_, fun g' hg' => by rw [List.mem_singleton.1 hg']; exact hg, ?_⟩
  · rw [List.take_succ_eq_append_getElem hk, polStcs_append]
    have : stcs [p.steps[k]] = stc p.steps[k] := by simp [stcs]
    rw [this]
    exact h1.setCell (by simp; omega) _
  · exact (((h.keep.alloc _).alloc _).trans h4 (fun y hy => .inr (h.new _ hy))).setCell (.inl (by simp)) _

set_option maxRecDepth 100000 in
set_option maxHeartbeats 2000000 in
theorem policy_any (As : Option Addr) (cs : Nat) (p : Pol) (w : World) (hp : PolV w As cs p) (hl : p.steps.length ≤ 1000) :
    Calls Try.prog 30 #[.agg #[.slice As p.steps.length cs, .int .i64 p.hold, .int .i64 p.calm, .int .i64 p.notice, .int .i64 p.grace]] w fun e w' => ∃ A c q, e = .returned (.agg #[.slice A p.steps.length c, .int .i64 p.hold, .int .i64 p.calm, .int .i64 p.notice, .int .i64 p.grace]) ∧
      OwnS w' 161 4 A p.steps.length c (stcs p.steps) q ∧ (∀ g ∈ q, w.heap.size ≤ g) ∧ Below w.heap.size w w' := by
  obtain ⟨i0, hi, hz0, hz1, hz2⟩ := info_parts infoRStp
  obtain ⟨W, hW⟩ : ∃ W, W = (((w.alloc (.cells #[.slice As p.steps.length cs, .int .i64 p.hold, .int .i64 p.calm, .int .i64 p.notice, .int .i64 p.grace] 25)).alloc (.cells #[.slice none 0 0, .int .i64 0, .int .i64 0, .int .i64 0, .int .i64 0] 70)).alloc (.cells #[.slice none 0 0, .int .i64 p.hold, .int .i64 p.calm, .int .i64 p.notice, .int .i64 p.grace] 70)) := ⟨_, rfl⟩
  have bW : Below w.heap.size w W := by rw [hW]; exact (((Below.refl _ _).alloc (Nat.le_refl _) _).alloc (by simp) _).alloc (by simp; omega) _
  obtain ⟨rb, hrb⟩ : ∃ rb, rb = w.heap.size + 1 := ⟨_, rfl⟩
  obtain ⟨ob, hob⟩ : ∃ ob, ob = w.heap.size + 1 + 1 := ⟨_, rfl⟩
  have zW : W.heap.size = ob + 1 := by rw [hW, hob]; simp
  have eo : W.heap[ob]? = some (.cells #[.slice none 0 0, .int .i64 p.hold, .int .i64 p.calm, .int .i64 p.notice, .int .i64 p.grace] 70 (0, 0)) := by
    rw [hW, hob]
    have := heap_alloc_new ((w.alloc (.cells #[.slice As p.steps.length cs, .int .i64 p.hold, .int .i64 p.calm, .int .i64 p.notice, .int .i64 p.grace] 25)).alloc (.cells #[.slice none 0 0, .int .i64 0, .int .i64 0, .int .i64 0, .int .i64 0] 70)) (.cells #[.slice none 0 0, .int .i64 p.hold, .int .i64 p.calm, .int .i64 p.notice, .int .i64 p.grace] 70)
    simpa using this
  have er : W.heap[rb]? = some (.cells #[.slice none 0 0, .int .i64 0, .int .i64 0, .int .i64 0, .int .i64 0] 70 (0, 0)) := by
    rw [hW, hrb]
    have := heap_alloc_new (w.alloc (.cells #[.slice As p.steps.length cs, .int .i64 p.hold, .int .i64 p.calm, .int .i64 p.notice, .int .i64 p.grace] 25)) (.cells #[.slice none 0 0, .int .i64 0, .int .i64 0, .int .i64 0, .int .i64 0] 70)
    rw [World.size_alloc] at this
    exact heap_alloc' this _
  have hbo : w.heap.size < rb ∧ rb < ob := by omega
  have HP := Lib.hid (And.intro hp (And.intro bW (And.intro eo (And.intro er (And.intro zW hbo)))))
  clear hp bW eo er zW hbo
  go_enter Try.func30, Try.ntmps30
  go_wp2_with fail
  rw [← hW, ← hob, ← hrb]
  clear hW hob hrb
  go_loopg [18] (p.steps.length) (fun g i wr => ∃ (k : Nat) (Ao : Option Addr) (co : Nat) (q : List Nat), g + k = p.steps.length ∧ i = .int .i64 k ∧ PoSt W wr ob p Ao k co q)
  case atStart => exact ⟨0, none, 0, [], rfl, rfl, HP.out.2.2.1, by simpa [stcs] using OwnS.nil _ _ _, by simp, Keep.refl _ _⟩
  case round =>
    obtain ⟨k, Ao, co, q, hk, rfl, hst⟩ := hrel
    have o0 := (cell_of_heap hst.blk 0).trans rfl
    have zo := heap_lt hst.blk
    by_cases hlt : k < p.steps.length
    · have rdw := (HP.out.1.2.2.below HP.out.2.1)
      have rdr := hst.keep.rd rdw (fun b off e => by
        obtain ⟨b', off', e', hb', _⟩ := HP.out.1.2.2.2 (by omega)
        rw [e] at e'; injection e' with e'; injection e' with e1
        have := HP.out.2.2.2.2.2
        simp; omega)
      obtain ⟨b, off, rfl, hb, hc⟩ := rdr.2 (by omega)
      obtain ⟨s0, s1, s2, s3⟩ := stcs_get hlt
      have c0 := hc _ _ s0
      have c1 : wr.cell? ⟨b, off + k * 4 + 1, none⟩ = _ := hc _ _ s1
      have c2 : wr.cell? ⟨b, off + k * 4 + 2, none⟩ = _ := hc _ _ s2
      have c3 : wr.cell? ⟨b, off + k * 4 + 3, none⟩ = _ := hc _ _ s3
      obtain ⟨x, hx⟩ : ∃ x, x = p.steps[k] := ⟨_, rfl⟩
      rw [← hx] at c0 c1 c2 c3
      have n2 : (k : Int) < (p.steps.length : Int) := by omega
      have HS := Lib.hid (And.intro hst hx)
      clear hc s0 s1 s2 s3 rdr rdw hst hx
      go_wp2_with (at_builtin
                   refine wpList_append_S (size := 4) rfl (.tmp 23) (.tmp 25) 68 rfl i0 _ 32 Try.underlying68 hi hz0 hz1 (by decide) hz2 rfl (A := Ao) (n := k) (c := co) (xs := stcs (p.steps.take k)) (fp := q) (by simp [Act.eval]) ⟨wr.heap.size + 1, 0, none⟩ (by simp [Act.eval]) [.int .i64 x.cls, .int .i64 x.ton, .int .i64 x.up, .int .i64 x.dn] ((HS.out.1.own.alloc _).alloc _) rfl ?_ (by simp [Value.oneCell']) (by omega) (by omega) ?_
                   · intro j v hv
                     rw [show (⟨wr.heap.size + 1, 0, none⟩ : Addr).add j = ⟨wr.heap.size + 1, j, none⟩ from by simp [Addr.add]; omega]
                     have := World.cell?_alloc_new (wr.alloc (.cells #[.int .i64 x.cls, .int .i64 x.ton, .int .i64 x.up, .int .i64 x.dn] 74)) #[.int .i64 x.cls, .int .i64 x.ton, .int .i64 x.up, .int .i64 x.dn] 161 j
                     rw [World.size_alloc] at this
                     rw [this]
                     simpa using hv
                   intro g c' w5 h1 h2 h3 h4
                   have hq := HS.out.1.step (by have := HP.out.2.2.2.2.1; omega) hlt (by rw [← HS.out.2]; exact h1) h2 h4
                   have d0 : w5.cell? ⟨ob, 0, none⟩ = some (.slice Ao k co) := (cell_of_heap hq.1 0).trans rfl
                   have d1 := frozen_of_heap hq.1 0
                   have HQ := Lib.hid hq.2
                   clear h1 h2 h3 h4 hq)
      go_roundg (gk - 1)
      case measure => omega
      case rel => exact ⟨k + 1, some ⟨g, 0, none⟩, c', [g], by omega, by go_num, HQ.out⟩
    · obtain rfl : k = p.steps.length := by omega
      have o1 := (cell_of_heap hst.blk 1).trans rfl
      have o2 := (cell_of_heap hst.blk 2).trans rfl
      have o3 := (cell_of_heap hst.blk 3).trans rfl
      have o4 := (cell_of_heap hst.blk 4).trans rfl
      have erw : wr.heap[rb]? = some (.cells #[.slice none 0 0, .int .i64 0, .int .i64 0, .int .i64 0, .int .i64 0] 70 (0, 0)) := (hst.keep.block rb (heap_lt HP.out.2.2.2.1) (by have := HP.out.2.2.2.2.2; simp; omega)).trans HP.out.2.2.2.1
      have r0 := (cell_of_heap erw 0).trans rfl
      have r1 := (cell_of_heap erw 1).trans rfl
      have r2 := (cell_of_heap erw 2).trans rfl
      have r3 := (cell_of_heap erw 3).trans rfl
      have r4 := (cell_of_heap erw 4).trans rfl
      have f0 := frozen_of_heap erw 0
      have f1 := frozen_of_heap erw 1
      have f2 := frozen_of_heap erw 2
      have f3 := frozen_of_heap erw 3
      have f4 := frozen_of_heap erw 4
      have zr := heap_lt erw
      have HS := Lib.hid (And.intro hst erw)
      clear hst erw
      go_wp2_with fail
      have ew := heap_set (heap_set (heap_set (heap_set (heap_set HS.out.2 0 (.slice Ao p.steps.length co)) 1 (.int .i64 p.hold)) 2 (.int .i64 p.calm)) 3 (.int .i64 p.notice)) 4 (.int .i64 p.grace)
      have x0 := (cell_of_heap ew 0).trans rfl
      have x1 := (cell_of_heap ew 1).trans rfl
      have x2 := (cell_of_heap ew 2).trans rfl
      have x3 := (cell_of_heap ew 3).trans rfl
      have x4 := (cell_of_heap ew 4).trans rfl
      have hrq : rb ∉ q := fun hm => by have := HS.out.1.new _ hm; have := HP.out.2.2.2.2; omega
      refine bodyPost_ret (v := .agg #[.slice Ao p.steps.length co, .int .i64 p.hold, .int .i64 p.calm, .int .i64 p.notice, .int .i64 p.grace]) (by simp [results, Try.results30, go_sem, x0, x1, x2, x3, x4]) rfl ?_
      have hown := HS.out.1.own
      rw [List.take_of_length_le (Nat.le_refl _)] at hown
      have hz := HP.out.2.2.2.2
      have hbs := HP.out.2.1.size
      refine ⟨Ao, co, q, rfl, ((((hown.setCell (by exact hrq) _).setCell (by exact hrq) _).setCell (by exact hrq) _).setCell (by exact hrq) _).setCell (by exact hrq) _, fun g hg => by have := HS.out.1.new _ hg; omega, ?_⟩
      have hB : Below w.heap.size w wr := HP.out.2.1.trans (HS.out.1.keep.below hbs (by simp; omega))
      exact ((((hB.setCell (by simp; omega) _).setCell (by simp; omega) _).setCell (by simp; omega) _).setCell (by simp; omega) _).setCell (by simp; omega) _

set_option maxRecDepth 100000 in
set_option maxHeartbeats 2000000 in
theorem same_any (As : Option Addr) (cs : Nat) (p : Pol) (Ar : Option Addr) (cr : Nat) (w : World) (hp : PolV w As cs p) (hr : Rd w 4 Ar p.steps.length (stcs p.steps)) (hl : p.steps.length ≤ 1000) :
    Calls Try.prog 45 #[.agg #[.slice As p.steps.length cs, .int .i64 p.hold, .int .i64 p.calm, .int .i64 p.notice, .int .i64 p.grace], .agg #[.slice Ar p.steps.length cr, .int .i64 p.hold, .int .i64 p.calm, .int .i64 p.notice, .int .i64 p.grace]] w fun e w' => e = .returned (.bool true) ∧ Below w.heap.size w w' := by
  obtain ⟨W0, hW0⟩ : ∃ W, W = w.alloc (.cells #[.slice As p.steps.length cs, .int .i64 p.hold, .int .i64 p.calm, .int .i64 p.notice, .int .i64 p.grace] 25) := ⟨_, rfl⟩
  obtain ⟨W, hW⟩ : ∃ W, W = W0.alloc (.cells #[.slice Ar p.steps.length cr, .int .i64 p.hold, .int .i64 p.calm, .int .i64 p.notice, .int .i64 p.grace] 70) := ⟨_, rfl⟩
  obtain ⟨ab, hab⟩ : ∃ ab, ab = w.heap.size := ⟨_, rfl⟩
  obtain ⟨bb, hbb⟩ : ∃ bb, bb = w.heap.size + 1 := ⟨_, rfl⟩
  have ea : W.heap[ab]? = some (.cells #[.slice As p.steps.length cs, .int .i64 p.hold, .int .i64 p.calm, .int .i64 p.notice, .int .i64 p.grace] 25 (0, 0)) := by rw [hW, hW0, hab]; exact heap_alloc' (heap_alloc_new _ _) _
  have eb : W.heap[bb]? = some (.cells #[.slice Ar p.steps.length cr, .int .i64 p.hold, .int .i64 p.calm, .int .i64 p.notice, .int .i64 p.grace] 70 (0, 0)) := by
    rw [hW, hbb]
    have := heap_alloc_new W0 (.cells #[.slice Ar p.steps.length cr, .int .i64 p.hold, .int .i64 p.calm, .int .i64 p.notice, .int .i64 p.grace] 70)
    rwa [show W0.heap.size = w.heap.size + 1 from by rw [hW0]; simp] at this
  have bW : Below w.heap.size w W := by rw [hW, hW0]; exact ((Below.refl _ _).alloc (Nat.le_refl _) _).alloc (by simp) _
  have k1 := policy_any As cs p W ⟨hp.1, hp.2.1, hp.2.2.below bW⟩ hl
  have a0 := (cell_of_heap ea 0).trans rfl
  have a1 := (cell_of_heap ea 1).trans rfl
  have a2 := (cell_of_heap ea 2).trans rfl
  have a3 := (cell_of_heap ea 3).trans rfl
  have a4 := (cell_of_heap ea 4).trans rfl
  have za := heap_lt ea
  have HP := Lib.hid (And.intro bW (And.intro ea (And.intro eb (And.intro k1 (hr.below bW)))))
  clear hp hr ea eb bW k1
  go_enter Try.func45, Try.ntmps45
  go_upto_region 1 with fail
  rw [← hbb, ← hab, ← hW0, ← hW]
  clear hW hW0 hab hbb
  go_wp2_with fail
  refine HP.out.2.2.2.1.mono ?_
  rintro e w1 ⟨A, c, q, rfl, h1, h2, h3⟩
  clear a0 a1 a2 a3 a4 za
  have ea := (h3.block _ (heap_lt HP.out.2.1)).trans HP.out.2.1
  have eb := (h3.block _ (heap_lt HP.out.2.2.1)).trans HP.out.2.2.1
  have a1 := (cell_of_heap ea 1).trans rfl
  have a2 := (cell_of_heap ea 2).trans rfl
  have a3 := (cell_of_heap ea 3).trans rfl
  have a4 := (cell_of_heap ea 4).trans rfl
  have za := heap_lt ea
  have b0 := (cell_of_heap eb 0).trans rfl
  have b1 := (cell_of_heap eb 1).trans rfl
  have b2 := (cell_of_heap eb 2).trans rfl
  have b3 := (cell_of_heap eb 3).trans rfl
  have b4 := (cell_of_heap eb 4).trans rfl
  have zb := heap_lt eb
  have bx : ∀ o, Below w1.heap.size w1 (w1.alloc o) := fun o => (Below.refl _ _).alloc (Nat.le_refl _) _
  have k2 := fun o => eqRStp_same A c p.steps Ar cr (w1.alloc o) (h1.rd.below (bx o)) ((HP.out.2.2.2.2.below h3).below (bx o)) (by omega)
  have H1 := Lib.hid (And.intro k2 (HP.out.1.trans (h3.mono HP.out.1.size)))
  have HE := Lib.hid (And.intro ea eb)
  clear ea eb h1 h2 h3 bx k2
  go_wp2_with fail
  refine (H1.out.1 _).mono ?_
  rintro e w2 ⟨rfl, hB⟩
  have hB1 : Below w1.heap.size w1 w2 := ((Below.refl w1.heap.size w1).alloc (Nat.le_refl _) _).trans (hB.mono (by simp))
  clear a1 a2 a3 a4 za b0 b1 b2 b3 b4 zb
  have ea := (hB1.block _ (heap_lt HE.out.1)).trans HE.out.1
  have eb := (hB1.block _ (heap_lt HE.out.2)).trans HE.out.2
  have a1 := (cell_of_heap ea 1).trans rfl
  have a2 := (cell_of_heap ea 2).trans rfl
  have a3 := (cell_of_heap ea 3).trans rfl
  have a4 := (cell_of_heap ea 4).trans rfl
  have b1 := (cell_of_heap eb 1).trans rfl
  have b2 := (cell_of_heap eb 2).trans rfl
  have b3 := (cell_of_heap eb 3).trans rfl
  have b4 := (cell_of_heap eb 4).trans rfl
  have HB := Lib.hid (H1.out.2.trans (hB1.mono H1.out.2.size))
  clear ea eb hB hB1
  go_wp2_with fail
  go_ret
  exact ⟨by simp, HB.out⟩
end Go.Proofs.Ytfmhlnfcbbpfeaa
/- ice: numbers within their limits -/
namespace Go.Proofs.Ytfmhlnfcbbpfeaa
open Go Go.RowKit Sp
set_option linter.unusedVariables false

theorem icein_any (n lo hi : Int) (w : World) :
    Calls Try.prog 107 #[.int .i64 n, .int .i64 lo, .int .i64 hi] w fun e w' => e = .returned (.bool (within n lo hi)) ∧ w = w' := by
  go_enter Try.func107, Try.ntmps107
  go_wp2
  all_goals (go_ret; refine ⟨?_, rfl⟩; simp [within]; try omega)

theorem most_any (w : World) :
    Calls Try.prog 108 #[] w fun e w' => e = .returned (.agg #[.int .i64 100, .int .i64 400, .int .i64 100, .int .i64 3]) ∧ Below w.heap.size w w' := by
  go_enter Try.func108, Try.ntmps108
  go_wp2_with fail
  refine bodyPost_ret (v := .agg #[.int .i64 100, .int .i64 400, .int .i64 100, .int .i64 3]) (by simp [results, Try.results108, go_sem]) rfl ⟨rfl, (Below.refl _ _).alloc (Nat.le_refl _) _⟩

/-- an ice -/
structure Ice where
  con : Int
  thk : Int
  rid : Int
  prs : Int
deriving DecidableEq, Inhabited
theorem numbers_any (x : Ice) (w : World) :
    Calls Try.prog 104 #[.agg #[.int .i64 x.con, .int .i64 x.thk, .int .i64 x.rid, .int .i64 x.prs]] w fun e w' => e = .returned (.agg #[.int .i64 x.con, .int .i64 x.thk, .int .i64 x.rid, .int .i64 x.prs]) ∧ Below w.heap.size w w' := by
  go_enter Try.func104, Try.ntmps104
  go_wp2_with fail
  exact bodyPost_ret (v := .agg #[.int .i64 x.con, .int .i64 x.thk, .int .i64 x.rid, .int .i64 x.prs]) (by simp [results, Try.results104, go_sem]) rfl ⟨rfl, ((Below.refl _ _).alloc (Nat.le_refl _) _).alloc (by simp) _⟩

theorem most_index (w : World) :
    ((Instr.index 174 (.agg #[.int .i64 100, .int .i64 400, .int .i64 100, .int .i64 3]) (.int .i64 0)).run Try.prog w = .ok (.int .i64 100) w ∧ (Instr.index 174 (.agg #[.int .i64 100, .int .i64 400, .int .i64 100, .int .i64 3]) (.int .i64 1)).run Try.prog w = .ok (.int .i64 400) w) ∧
    ((Instr.index 174 (.agg #[.int .i64 100, .int .i64 400, .int .i64 100, .int .i64 3]) (.int .i64 2)).run Try.prog w = .ok (.int .i64 100) w ∧ (Instr.index 174 (.agg #[.int .i64 100, .int .i64 400, .int .i64 100, .int .i64 3]) (.int .i64 3)).run Try.prog w = .ok (.int .i64 3) w) := by
  have u3 := Try.underlying3
  have a3 := Try.isAgg3
  have z3 := Try.sizeOf3
  have u4 := Try.underlying174
  simp [Instr.index, asIntOf, run_underlying u4, part, isAgg, run_underlying u3, z3, go_sem]

def iceN (x : Ice) : Nat → Int
  | 0 => x.con
  | 1 => x.thk
  | 2 => x.rid
  | _ => x.prs
def mostN : Nat → Int
  | 0 => 100
  | 1 => 400
  | 2 => 100
  | _ => 3
def iceOk (x : Ice) : Bool := within x.con 0 100 && within x.thk 0 400 && within x.rid 0 100 && within x.prs 0 3

set_option maxRecDepth 100000 in
set_option maxHeartbeats 1000000 in
theorem ckice_any (x : Ice) (b : Nat) (k : Nat) (hk : k < 4) (w : World) (hb : w.heap[b]? = some (.cells #[.int .i64 x.con, .int .i64 x.thk, .int .i64 x.rid, .int .i64 x.prs] 174 (0, 0))) :
    Calls Try.prog 106 #[.int .i64 k, .pointer (some ⟨b, 0, none⟩)] w fun e w' => e = .returned (.bool (within (iceN x k) 0 (mostN k))) ∧ Below w.heap.size w w' := by
  have c0 := (cell_of_heap hb 0).trans rfl
  have c1 := (cell_of_heap hb 1).trans rfl
  have c2 := (cell_of_heap hb 2).trans rfl
  have c3 := (cell_of_heap hb 3).trans rfl
  have zb := heap_lt hb
  have KC : ∀ {b o : Nat} {u : Value}, w.cell? ⟨b, o, none⟩ = some u → ∀ w', Below w.heap.size w w' → w'.cell? ⟨b, o, none⟩ = some u := fun h w' hb => (hb.cell (World.block_lt_of_cell? w _ h)).trans h
  have c0' := KC c0
  have c1' := KC c1
  have c2' := KC c2
  have c3' := KC c3
  clear KC hb
  obtain ⟨r, hr⟩ : ∃ r, r = within (iceN x k) 0 (mostN k) := ⟨_, rfl⟩
  have kin : ∀ wx, Calls Try.prog 107 #[.int .i64 (iceN x k), .int .i64 0, .int .i64 (mostN k)] wx fun e w' => e = .returned (.bool r) ∧ wx = w' := fun wx => by rw [hr]; exact icein_any _ _ _ wx
  rw [← hr]
  have H := Lib.hid kin
  clear kin hr
  rcases (by omega : k = 0 ∨ k = 1 ∨ k = 2 ∨ k = 3) with rfl | rfl | rfl | rfl
  · show Calls Try.prog 106 #[.int .i64 0, .pointer (some ⟨b, 0, none⟩)] w _
    go_enter Try.func106, Try.ntmps106
    go_upto_region 1 with fail
    have hx0 := fun w => (most_index w).1.1
    have hx1 := fun w => (most_index w).1.2
    have hx2 := fun w => (most_index w).2.1
    have hx3 := fun w => (most_index w).2.2
    go_region_held3 (fun w' => Below w.heap.size w w') (first | exact (Below.refl _ _).drew | assumption)
      (first
        | (go_at_call 108
           refine (most_any _).mono ?_
           rintro e w2 ⟨rfl, b2⟩
           have B2 : Below w.heap.size w w2 := (Below.refl _ _).drew.trans b2
           clear b2)
        | (go_at_call 107
           refine (H.out _).mono ?_
           rintro e w3 ⟨rfl, rfl⟩))
    have HB := Lib.hid B2
    clear B2
    go_wp2_with fail
    go_ret
    exact ⟨rfl, HB.out⟩
  · show Calls Try.prog 106 #[.int .i64 1, .pointer (some ⟨b, 0, none⟩)] w _
    go_enter Try.func106, Try.ntmps106
    go_upto_region 1 with fail
    have hx0 := fun w => (most_index w).1.1
    have hx1 := fun w => (most_index w).1.2
    have hx2 := fun w => (most_index w).2.1
    have hx3 := fun w => (most_index w).2.2
    go_region_held3 (fun w' => Below w.heap.size w w') (first | exact (Below.refl _ _).drew | assumption)
      (first
        | (go_at_call 108
           refine (most_any _).mono ?_
           rintro e w2 ⟨rfl, b2⟩
           have B2 : Below w.heap.size w w2 := (Below.refl _ _).drew.trans b2
           clear b2)
        | (go_at_call 107
           refine (H.out _).mono ?_
           rintro e w3 ⟨rfl, rfl⟩))
    have HB := Lib.hid B2
    clear B2
    go_wp2_with fail
    go_ret
    exact ⟨rfl, HB.out⟩
  · show Calls Try.prog 106 #[.int .i64 2, .pointer (some ⟨b, 0, none⟩)] w _
    go_enter Try.func106, Try.ntmps106
    go_upto_region 1 with fail
    have hx0 := fun w => (most_index w).1.1
    have hx1 := fun w => (most_index w).1.2
    have hx2 := fun w => (most_index w).2.1
    have hx3 := fun w => (most_index w).2.2
    go_region_held3 (fun w' => Below w.heap.size w w') (first | exact (Below.refl _ _).drew | assumption)
      (first
        | (go_at_call 108
           refine (most_any _).mono ?_
           rintro e w2 ⟨rfl, b2⟩
           have B2 : Below w.heap.size w w2 := (Below.refl _ _).drew.trans b2
           clear b2)
        | (go_at_call 107
           refine (H.out _).mono ?_
           rintro e w3 ⟨rfl, rfl⟩))
    have HB := Lib.hid B2
    clear B2
    go_wp2_with fail
    go_ret
    exact ⟨rfl, HB.out⟩
  · show Calls Try.prog 106 #[.int .i64 3, .pointer (some ⟨b, 0, none⟩)] w _
    go_enter Try.func106, Try.ntmps106
    go_upto_region 1 with fail
    have hx0 := fun w => (most_index w).1.1
    have hx1 := fun w => (most_index w).1.2
    have hx2 := fun w => (most_index w).2.1
    have hx3 := fun w => (most_index w).2.2
    go_region_held3 (fun w' => Below w.heap.size w w') (first | exact (Below.refl _ _).drew | assumption)
      (first
        | (go_at_call 108
           refine (most_any _).mono ?_
           rintro e w2 ⟨rfl, b2⟩
           have B2 : Below w.heap.size w w2 := (Below.refl _ _).drew.trans b2
           clear b2)
        | (go_at_call 107
           refine (H.out _).mono ?_
           rintro e w3 ⟨rfl, rfl⟩))
    have HB := Lib.hid B2
    clear B2
    go_wp2_with fail
    go_ret
    exact ⟨rfl, HB.out⟩
end Go.Proofs.Ytfmhlnfcbbpfeaa
/- ice: all, CheckIce; restrict.grade, Grade; polynyaref08.Grade -/
namespace Go.Proofs.Ytfmhlnfcbbpfeaa
open Go Go.RowKit Sp
set_option linter.unusedVariables false

set_option maxRecDepth 100000 in
set_option maxHeartbeats 1000000 in
theorem allIce_any (b : Nat) (g : Nat → Bool) (w : World) (hg : ∀ k : Nat, k < 4 → ∀ wx, Below w.heap.size w wx → Calls Try.prog 106 #[.int .i64 k, .pointer (some ⟨b, 0, none⟩)] wx fun e w' => e = .returned (.bool (g k)) ∧ Below wx.heap.size wx w') :
    Calls Try.prog 105 #[.func (.func 106) #[] #[.pointer (some ⟨b, 0, none⟩)]] w fun e w' => e = .returned (.bool (g 0 && g 1 && g 2 && g 3)) ∧ Below w.heap.size w w' := by
  have HG := Lib.hid hg
  clear hg
  go_enter Try.func105, Try.ntmps105
  go_wp2_with (go_at_call 108; refine (most_any _).mono ?_; rintro e w1 ⟨rfl, b1⟩)
  go_loopw [5] (fun i wr => ∃ k : Nat, k ≤ 4 ∧ i = .int .i64 k ∧ (∀ j, j < k → g j = true) ∧ Below w.heap.size w wr) (fun i _ => 4 - (intOf i).toNat)
  case atStart => exact ⟨0, by omega, rfl, by omega, b1⟩
  case round =>
    obtain ⟨k, hk, rfl, hall, hb⟩ := hrel
    have HB := Lib.hid (And.intro hall hb)
    clear hall hb b1
    by_cases hlt : k < 4
    · obtain ⟨r, hr⟩ : ∃ r, r = g k := ⟨_, rfl⟩
      have hc := HG.out k hlt wr HB.out.2
      rw [← hr] at hc
      have n2 : (k : Int) < 4 := by omega
      have HC := Lib.hid (And.intro hc hr)
      clear hc hr
      cases r
      · go_wp2_with (go_at_call 106; refine HC.out.1.mono ?_; rintro e w2 ⟨rfl, b2⟩)
        go_ret
        refine ⟨?_, HB.out.2.trans (b2.mono HB.out.2.size)⟩
        have hf := HC.out.2.symm
        have : (g 0 && g 1 && g 2 && g 3) = false := by
          rcases (by omega : k = 0 ∨ k = 1 ∨ k = 2 ∨ k = 3) with rfl | rfl | rfl | rfl <;> simp [hf]
        rw [this]; rfl
      · go_wp2_with (go_at_call 106; refine HC.out.1.mono ?_; rintro e w2 ⟨rfl, b2⟩)
        go_roundw
        case measure => simp [intOf]; omega
        case rel =>
          refine ⟨k + 1, by omega, by go_num, fun j hj => ?_, HB.out.2.trans (b2.mono HB.out.2.size)⟩
          by_cases h : j = k
          · rw [h, ← HC.out.2]
          · exact HB.out.1 j (by omega)
    · obtain rfl : k = 4 := by omega
      go_wp2_with fail
      go_ret
      refine ⟨?_, HB.out.2⟩
      have h := HB.out.1
      rw [h 0 (by omega), h 1 (by omega), h 2 (by omega), h 3 (by omega)]; rfl

def iceE (x : Ice) : Int := if iceOk x then 0 else 20
set_option maxRecDepth 100000 in
set_option maxHeartbeats 1000000 in
theorem checkIce_any (x : Ice) (w : World) :
    Calls Try.prog 61 #[.agg #[.int .i64 x.con, .int .i64 x.thk, .int .i64 x.rid, .int .i64 x.prs]] w fun e w' => e = .returned (.int .i64 (iceE x)) ∧ Below w.heap.size w w' := by
  obtain ⟨r, hr⟩ : ∃ r, r = iceOk x := ⟨_, rfl⟩
  have hE : iceE x = if r then 0 else 20 := by rw [hr]; rfl
  have b0 : Below w.heap.size w (w.alloc (.cells #[.int .i64 x.con, .int .i64 x.thk, .int .i64 x.rid, .int .i64 x.prs] 111)) := (Below.refl _ _).alloc (Nat.le_refl _) _
  have HR := Lib.hid (And.intro hr (And.intro hE b0))
  clear hr hE b0
  go_enter Try.func61, Try.ntmps61
  go_upto_region 2 with (go_at_call 104; refine (numbers_any x _).mono ?_; rintro e w1 ⟨rfl, b1⟩)
  have bb := HR.out.2.2.trans (b1.mono (by simp))
  obtain ⟨W, hW⟩ : ∃ W, W = w1.alloc (.cells #[.int .i64 x.con, .int .i64 x.thk, .int .i64 x.rid, .int .i64 x.prs] 174) := ⟨_, rfl⟩
  obtain ⟨nb, hnb⟩ : ∃ b, b = w1.heap.size := ⟨_, rfl⟩
  have hh : W.heap[nb]? = some (.cells #[.int .i64 x.con, .int .i64 x.thk, .int .i64 x.rid, .int .i64 x.prs] 174 (0, 0)) := by rw [hW, hnb]; exact heap_alloc_new _ _
  have bW : Below w.heap.size w W := by rw [hW]; exact bb.alloc bb.size _
  rw [← hW, ← hnb]
  have ka := allIce_any nb (fun k => within (iceN x k) 0 (mostN k)) W (fun (k : Nat) hk wx hx => ckice_any x nb k hk wx ((hx.block _ (heap_lt hh)).trans hh))
  have hk : (within (iceN x 0) 0 (mostN 0) && within (iceN x 1) 0 (mostN 1) && within (iceN x 2) 0 (mostN 2) && within (iceN x 3) 0 (mostN 3)) = r := HR.out.1.symm
  rw [hk] at ka
  have HA := Lib.hid (And.intro ka bW)
  clear ka bW hh hW hnb bb b1 hk
  cases r
  · go_wp2_with (go_at_call 105; refine HA.out.1.mono ?_; rintro e w2 ⟨rfl, b2⟩)
    go_ret
    exact ⟨by rw [HR.out.2.1]; rfl, HA.out.2.trans (b2.mono HA.out.2.size)⟩
  · go_wp2_with (go_at_call 105; refine HA.out.1.mono ?_; rintro e w2 ⟨rfl, b2⟩)
    go_ret
    exact ⟨by rw [HR.out.2.1]; rfl, HA.out.2.trans (b2.mono HA.out.2.size)⟩
end Go.Proofs.Ytfmhlnfcbbpfeaa
/- restrict.grade, Grade; polynyaref08.Grade -/
namespace Go.Proofs.Ytfmhlnfcbbpfeaa
open Go Go.RowKit Sp
set_option linter.unusedVariables false

def gradeS (x : Ice) : Int := Int.tdiv (x.con * x.thk) 100 + 5 * x.rid + 50 * x.prs
def gradeN (x : Ice) : Int := if iceOk x then gradeS x else 0
theorem gradeN_ok {x : Ice} (h : iceOk x = true) : gradeN x = gradeS x := by unfold gradeN; rw [if_pos h]
theorem gradeN_no {x : Ice} (h : ¬ iceOk x = true) : gradeN x = 0 := by unfold gradeN; rw [if_neg h]
theorem ice_ok {x : Ice} (h : iceOk x = true) : (0 ≤ x.con ∧ x.con ≤ 100) ∧ (0 ≤ x.thk ∧ x.thk ≤ 400) ∧ (0 ≤ x.rid ∧ x.rid ≤ 100) ∧ (0 ≤ x.prs ∧ x.prs ≤ 3) := by
  simp [iceOk, within] at h
  omega
theorem ice_prod {x : Ice} (h : iceOk x = true) : 0 ≤ x.con * x.thk ∧ x.con * x.thk ≤ 40000 := by
  obtain ⟨⟨a1, a2⟩, ⟨b1, b2⟩, _⟩ := ice_ok h
  refine ⟨Int.mul_nonneg a1 b1, ?_⟩
  have := Int.mul_le_mul a2 b2 b1 (by omega)
  omega
theorem grade_range {x : Ice} (h : iceOk x = true) : 0 ≤ gradeS x ∧ gradeS x ≤ 1050 := by
  obtain ⟨_, _, c1, c2⟩ := ice_ok h
  obtain ⟨d1, d2⟩ := ice_prod h
  unfold gradeS
  rw [Int.tdiv_eq_ediv_of_nonneg d1]
  omega
set_option maxRecDepth 100000 in
set_option maxHeartbeats 1000000 in
theorem grade_any (x : Ice) (w : World) (hx : iceOk x = true) :
    Calls Try.prog 103 #[.agg #[.int .i64 x.con, .int .i64 x.thk, .int .i64 x.rid, .int .i64 x.prs]] w fun e w' => e = .returned (.int .i64 (gradeS x)) ∧ Below w.heap.size w w' := by
  obtain ⟨_, _, ⟨c1, c2⟩, ⟨c3, c4⟩⟩ := ice_ok hx
  obtain ⟨d1, d2⟩ := ice_prod hx
  obtain ⟨P, hP⟩ : ∃ P, P = x.con * x.thk := ⟨_, rfl⟩
  have hG : gradeS x = Int.tdiv P 100 + 5 * x.rid + 50 * x.prs := by rw [hP]; rfl
  rw [hG]
  rw [← hP] at d1 d2
  obtain ⟨Q, hQ⟩ : ∃ Q, Q = Int.tdiv P 100 := ⟨_, rfl⟩
  have q1 : 0 ≤ Q ∧ Q ≤ 400 := by rw [hQ, Int.tdiv_eq_ediv_of_nonneg d1]; omega
  obtain ⟨w1, w2, w3, w4, w5, w6⟩ : IntKind.i64.wrap (x.con * x.thk) = P ∧ Int.tdiv P 100 = Q ∧ IntKind.i64.wrap (5 * x.rid) = 5 * x.rid ∧ IntKind.i64.wrap (Q + 5 * x.rid) = Q + 5 * x.rid ∧ IntKind.i64.wrap (50 * x.prs) = 50 * x.prs ∧ IntKind.i64.wrap (Q + 5 * x.rid + 50 * x.prs) = Q + 5 * x.rid + 50 * x.prs :=
    ⟨by rw [← hP]; exact IntWalk.i64_in _ (by omega), hQ.symm, IntWalk.i64_in _ (by omega), IntWalk.i64_in _ (by omega), IntWalk.i64_in _ (by omega), IntWalk.i64_in _ (by omega)⟩
  rw [w2]
  have w7 : IntKind.i64.wrap Q = Q := IntWalk.i64_in _ (by omega)
  clear hQ hP hG
  go_enter Try.func103, Try.ntmps103
  go_wp2_with fail
  go_ret
  refine ⟨?_, (Below.refl _ _).alloc (Nat.le_refl _) _⟩
  rfl

set_option maxRecDepth 100000 in
set_option maxHeartbeats 1000000 in
theorem Grade_any (x : Ice) (w : World) :
    Calls Try.prog 60 #[.agg #[.int .i64 x.con, .int .i64 x.thk, .int .i64 x.rid, .int .i64 x.prs]] w fun e w' => e = .returned (.tuple #[.int .i64 (gradeN x), .int .i64 (iceE x)]) ∧ Below w.heap.size w w' := by
  obtain ⟨W, hW⟩ : ∃ W, W = w.alloc (.cells #[.int .i64 x.con, .int .i64 x.thk, .int .i64 x.rid, .int .i64 x.prs] 111) := ⟨_, rfl⟩
  obtain ⟨ib, hib⟩ : ∃ b, b = w.heap.size := ⟨_, rfl⟩
  have hh : W.heap[ib]? = some (.cells #[.int .i64 x.con, .int .i64 x.thk, .int .i64 x.rid, .int .i64 x.prs] 111 (0, 0)) := by rw [hW, hib]; exact heap_alloc_new _ _
  have bW : Below w.heap.size w W := by rw [hW]; exact (Below.refl _ _).alloc (Nat.le_refl _) _
  have kc := checkIce_any x W
  obtain ⟨er, her⟩ : ∃ er, er = iceE x := ⟨_, rfl⟩
  rw [← her] at kc
  have c0 := (cell_of_heap hh 0).trans rfl
  have c1 := (cell_of_heap hh 1).trans rfl
  have c2 := (cell_of_heap hh 2).trans rfl
  have c3 := (cell_of_heap hh 3).trans rfl
  have zb := heap_lt hh
  have HR := Lib.hid (And.intro hh (And.intro bW (And.intro kc her)))
  clear hh bW kc her
  go_enter Try.func60, Try.ntmps60
  go_upto_region 1 with fail
  rw [← hW, ← hib]
  clear hW hib
  go_wp2_with fail
  refine HR.out.2.2.1.mono ?_
  rintro e w1 ⟨rfl, b1⟩
  have hh := (b1.block _ (heap_lt HR.out.1)).trans HR.out.1
  clear c0 c1 c2 c3 zb
  have c0 := (cell_of_heap hh 0).trans rfl
  have c1 := (cell_of_heap hh 1).trans rfl
  have c2 := (cell_of_heap hh 2).trans rfl
  have c3 := (cell_of_heap hh 3).trans rfl
  have zb := heap_lt hh
  have HB := Lib.hid (HR.out.2.1.trans (b1.mono HR.out.2.1.size))
  clear b1 hh
  by_cases h0 : er = 0
  · subst h0
    have hok : iceOk x = true := by
      have := HR.out.2.2.2
      unfold iceE at this
      split at this
      · assumption
      · cases this
    have kg := grade_any x w1 hok
    have HG := Lib.hid (And.intro hok kg)
    clear hok kg
    go_wp2_with (go_at_call 103; refine HG.out.2.mono ?_; rintro e w2 ⟨rfl, b2⟩)
    go_ret2
    exact ⟨by rw [gradeN_ok HG.out.1, ← HR.out.2.2.2]; rfl, HB.out.trans (b2.mono HB.out.size)⟩
  · have hne : (er != 0) = true := by simp [h0]
    have HK := Lib.hid h0
    clear h0
    go_wp2_with fail
    go_ret2
    refine ⟨?_, HB.out⟩
    have : ¬ iceOk x = true := fun h => HK.out (by rw [HR.out.2.2.2]; unfold iceE; rw [if_pos h])
    rw [gradeN_no this, ← HR.out.2.2.2]; rfl
end Go.Proofs.Ytfmhlnfcbbpfeaa
