/- ice: all over has$1 and CheckRates$1 (printed by wip/tools/alln.py) -/
import Derived.Test.YtfmhlnfcbbpfeaaRCp11
import Derived.Test.YtfmhlnfcbbpfeaaRCp14
import Derived.Deep.RegionHeld3
set_option linter.unusedVariables false
namespace Go.Proofs.Ytfmhlnfcbbpfeaa
open Go Go.RowKit Sp
set_option linter.unusedVariables false

set_option maxRecDepth 100000 in
set_option maxHeartbeats 1000000 in
theorem allHas_any (b c : Nat) (g : Nat → Bool) (w : World) (hg : ∀ k : Nat, k < 4 → ∀ wx, Below w.heap.size w wx → Calls Try.prog 142 #[.int .i64 k, .pointer (some ⟨b, 0, none⟩), .pointer (some ⟨c, 0, none⟩)] wx fun e w' => e = .returned (.bool (g k)) ∧ Below wx.heap.size wx w') :
    Calls Try.prog 105 #[.func (.func 142) #[] #[.pointer (some ⟨b, 0, none⟩), .pointer (some ⟨c, 0, none⟩)]] w fun e w' => e = .returned (.bool (g 0 && g 1 && g 2 && g 3)) ∧ Below w.heap.size w w' := by
  have HG := Lib.hid hg
  clear hg
  go_enter Try.func105, Try.ntmps105
  go_wp2_with (go_at_call 108; refine (most_any _).mono ?_; rintro e w1 ⟨rfl, b1⟩)
  go_loopw [5] (fun i wr => ∃ k : Nat, k ≤ 4 ∧ i = .int .i64 k ∧ (∀ j, j < k → g j = true) ∧ Below w.heap.size w wr) (fun i _ => 4 - (intOf i).toNat)
  case atStart => exact ⟨0, by omega, rfl, by omega, b1⟩
  case round =>
    obtain ⟨k, hk, rfl, hall, hb⟩ := hrel
    have HB := Lib.hid (And.intro hall hb)
    clear hall hb b1
    by_cases hlt : k < 4
    · obtain ⟨r, hr⟩ : ∃ r, r = g k := ⟨_, rfl⟩
      have hc := HG.out k hlt wr HB.out.2
      rw [← hr] at hc
      have n2 : (k : Int) < 4 := by omega
      have HC := Lib.hid (And.intro hc hr)
      clear hc hr
      cases r
      · go_wp2_with (go_at_call 142; refine HC.out.1.mono ?_; rintro e w2 ⟨rfl, b2⟩)
        go_ret
        refine ⟨?_, HB.out.2.trans (b2.mono HB.out.2.size)⟩
        have hf := HC.out.2.symm
        have : (g 0 && g 1 && g 2 && g 3) = false := by
          rcases (by omega : k = 0 ∨ k = 1 ∨ k = 2 ∨ k = 3) with rfl | rfl | rfl | rfl <;> simp [hf]
        rw [this]; rfl
      · go_wp2_with (go_at_call 142; refine HC.out.1.mono ?_; rintro e w2 ⟨rfl, b2⟩)
        go_roundw
        case measure => simp [intOf]; omega
        case rel =>
          refine ⟨k + 1, by omega, by go_num, fun j hj => ?_, HB.out.2.trans (b2.mono HB.out.2.size)⟩
          by_cases h : j = k
          · rw [h, ← HC.out.2]
          · exact HB.out.1 j (by omega)
    · obtain rfl : k = 4 := by omega
      go_wp2_with fail
      go_ret
      refine ⟨?_, HB.out.2⟩
      have h := HB.out.1
      rw [h 0 (by omega), h 1 (by omega), h 2 (by omega), h 3 (by omega)]; rfl

set_option maxRecDepth 100000 in
set_option maxHeartbeats 1000000 in
theorem allRt_any (b c : Nat) (g : Nat → Bool) (w : World) (hg : ∀ k : Nat, k < 4 → ∀ wx, Below w.heap.size w wx → Calls Try.prog 143 #[.int .i64 k, .pointer (some ⟨b, 0, none⟩), .pointer (some ⟨c, 0, none⟩)] wx fun e w' => e = .returned (.bool (g k)) ∧ Below wx.heap.size wx w') :
    Calls Try.prog 105 #[.func (.func 143) #[] #[.pointer (some ⟨b, 0, none⟩), .pointer (some ⟨c, 0, none⟩)]] w fun e w' => e = .returned (.bool (g 0 && g 1 && g 2 && g 3)) ∧ Below w.heap.size w w' := by
  have HG := Lib.hid hg
  clear hg
  go_enter Try.func105, Try.ntmps105
  go_wp2_with (go_at_call 108; refine (most_any _).mono ?_; rintro e w1 ⟨rfl, b1⟩)
  go_loopw [5] (fun i wr => ∃ k : Nat, k ≤ 4 ∧ i = .int .i64 k ∧ (∀ j, j < k → g j = true) ∧ Below w.heap.size w wr) (fun i _ => 4 - (intOf i).toNat)
  case atStart => exact ⟨0, by omega, rfl, by omega, b1⟩
  case round =>
    obtain ⟨k, hk, rfl, hall, hb⟩ := hrel
    have HB := Lib.hid (And.intro hall hb)
    clear hall hb b1
    by_cases hlt : k < 4
    · obtain ⟨r, hr⟩ : ∃ r, r = g k := ⟨_, rfl⟩
      have hc := HG.out k hlt wr HB.out.2
      rw [← hr] at hc
      have n2 : (k : Int) < 4 := by omega
      have HC := Lib.hid (And.intro hc hr)
      clear hc hr
      cases r
      · go_wp2_with (go_at_call 143; refine HC.out.1.mono ?_; rintro e w2 ⟨rfl, b2⟩)
        go_ret
        refine ⟨?_, HB.out.2.trans (b2.mono HB.out.2.size)⟩
        have hf := HC.out.2.symm
        have : (g 0 && g 1 && g 2 && g 3) = false := by
          rcases (by omega : k = 0 ∨ k = 1 ∨ k = 2 ∨ k = 3) with rfl | rfl | rfl | rfl <;> simp [hf]
        rw [this]; rfl
      · go_wp2_with (go_at_call 143; refine HC.out.1.mono ?_; rintro e w2 ⟨rfl, b2⟩)
        go_roundw
        case measure => simp [intOf]; omega
        case rel =>
          refine ⟨k + 1, by omega, by go_num, fun j hj => ?_, HB.out.2.trans (b2.mono HB.out.2.size)⟩
          by_cases h : j = k
          · rw [h, ← HC.out.2]
          · exact HB.out.1 j (by omega)
    · obtain rfl : k = 4 := by omega
      go_wp2_with fail
      go_ret
      refine ⟨?_, HB.out.2⟩
      have h := HB.out.1
      rw [h 0 (by omega), h 1 (by omega), h 2 (by omega), h 3 (by omega)]; rfl
end Go.Proofs.Ytfmhlnfcbbpfeaa
/- ice: has, wrong of ices, Holds -/
namespace Go.Proofs.Ytfmhlnfcbbpfeaa
open Go Go.RowKit Sp
set_option linter.unusedVariables false
set_option linter.unusedSimpArgs false

def celLoN (x : Cel) : Nat → Int
  | 0 => x.a0
  | 1 => x.b0
  | 2 => x.c0
  | _ => x.d0
def celHiN (x : Cel) : Nat → Int
  | 0 => x.a1
  | 1 => x.b1
  | 2 => x.c1
  | _ => x.d1
def hasN (x : Cel) (i : Ice) (k : Nat) : Bool := within (iceN i k) (celLoN x k) (celHiN x k)
def hasB (x : Cel) (i : Ice) : Bool := hasN x i 0 && hasN x i 1 && hasN x i 2 && hasN x i 3

set_option maxRecDepth 100000 in
set_option maxHeartbeats 1000000 in
theorem has1_any (x : Cel) (i : Ice) (lb sb : Nat) (k : Nat) (hk : k < 4) (w : World) (hl : w.heap[lb]? = some (.cells #[.int .i64 i.con, .int .i64 i.thk, .int .i64 i.rid, .int .i64 i.prs] 174 (0, 0))) (hs : w.heap[sb]? = some (.cells (celA x) 188 (0, 0))) :
    Calls Try.prog 142 #[.int .i64 k, .pointer (some ⟨lb, 0, none⟩), .pointer (some ⟨sb, 0, none⟩)] w fun e w' => e = .returned (.bool (hasN x i k)) ∧ Below w.heap.size w w' := by
  obtain ⟨u, v, y, hu, hv, hy, hh⟩ : ∃ u v y : Int, w.cell? ⟨lb, k, none⟩ = some (.int .i64 u) ∧ w.cell? ⟨sb, k * 2, none⟩ = some (.int .i64 v) ∧ w.cell? ⟨sb, k * 2 + 1, none⟩ = some (.int .i64 y) ∧ hasN x i k = within u v y := by
    rcases (by omega : k = 0 ∨ k = 1 ∨ k = 2 ∨ k = 3) with rfl | rfl | rfl | rfl
    · exact ⟨_, _, _, (cell_of_heap hl 0).trans rfl, (cell_of_heap hs 0).trans rfl, (cell_of_heap hs 1).trans rfl, rfl⟩
    · exact ⟨_, _, _, (cell_of_heap hl 1).trans rfl, (cell_of_heap hs 2).trans rfl, (cell_of_heap hs 3).trans rfl, rfl⟩
    · exact ⟨_, _, _, (cell_of_heap hl 2).trans rfl, (cell_of_heap hs 4).trans rfl, (cell_of_heap hs 5).trans rfl, rfl⟩
    · exact ⟨_, _, _, (cell_of_heap hl 3).trans rfl, (cell_of_heap hs 6).trans rfl, (cell_of_heap hs 7).trans rfl, rfl⟩
  rw [hh]
  have zl := heap_lt hl
  have zs := heap_lt hs
  have b1 : (0 : Int) ≤ (k : Int) := by omega
  have b2 : (k : Int) < 4 := by omega
  clear hl hs hh
  go_enter Try.func142, Try.ntmps142
  go_wp2_with fail
  go_quiet ((go_at_call 107; exact Calls.quiet_of_same ((icein_any _ _ _ _).mono fun e W' ⟨h1, h2⟩ => ⟨h1, h2.symm⟩)))
  go_wp2_with fail
  go_ret
  exact ⟨rfl, ((Keep.refl [] w).drewN _).below (Nat.le_refl _) (by simp)⟩

set_option maxRecDepth 100000 in
set_option maxHeartbeats 1000000 in
theorem has_any (x : Cel) (i : Ice) (w : World) :
    Calls Try.prog 121 #[.agg (celA x), .agg #[.int .i64 i.con, .int .i64 i.thk, .int .i64 i.rid, .int .i64 i.prs]] w fun e w' => e = .returned (.bool (hasB x i)) ∧ Below w.heap.size w w' := by
  obtain ⟨r, hr⟩ : ∃ r, r = hasB x i := ⟨_, rfl⟩
  rw [← hr]
  obtain ⟨W1, hW1⟩ : ∃ W, W = (w.alloc (.cells (celA x) 188)).alloc (.cells #[.int .i64 i.con, .int .i64 i.thk, .int .i64 i.rid, .int .i64 i.prs] 111) := ⟨_, rfl⟩
  obtain ⟨sb, hsb⟩ : ∃ b, b = w.heap.size := ⟨_, rfl⟩
  obtain ⟨ib, hib⟩ : ∃ b, b = w.heap.size + 1 := ⟨_, rfl⟩
  have hsh : W1.heap[sb]? = some (.cells (celA x) 188 (0, 0)) := by rw [hW1, hsb]; exact heap_alloc' (heap_alloc_new _ _) _
  have hih : W1.heap[ib]? = some (.cells #[.int .i64 i.con, .int .i64 i.thk, .int .i64 i.rid, .int .i64 i.prs] 111 (0, 0)) := by
    rw [hW1, hib]
    have := heap_alloc_new (w.alloc (.cells (celA x) 188)) (.cells #[.int .i64 i.con, .int .i64 i.thk, .int .i64 i.rid, .int .i64 i.prs] 111)
    rwa [World.size_alloc] at this
  have bW : Below w.heap.size w W1 := by rw [hW1]; exact ((Below.refl _ _).alloc (Nat.le_refl _) _).alloc (by simp) _
  have c0 := (cell_of_heap hih 0).trans rfl
  have c1 := (cell_of_heap hih 1).trans rfl
  have c2 := (cell_of_heap hih 2).trans rfl
  have c3 := (cell_of_heap hih 3).trans rfl
  have zi := heap_lt hih
  have HR := Lib.hid (And.intro hsh (And.intro bW hr))
  clear hsh hih bW hr
  go_enter Try.func121, Try.ntmps121
  go_upto_region 1 with fail
  rw [← hW1, ← hib, ← hsb]
  clear hW1 hsb hib
  go_upto_region 2 with (go_at_call 104; refine (numbers_any i _).mono ?_; rintro e w1 ⟨rfl, b1⟩)
  have bb := HR.out.2.1.trans (b1.mono HR.out.2.1.size)
  have hs1 := (b1.block _ (heap_lt HR.out.1)).trans HR.out.1
  obtain ⟨W, hW⟩ : ∃ W, W = w1.alloc (.cells #[.int .i64 i.con, .int .i64 i.thk, .int .i64 i.rid, .int .i64 i.prs] 174) := ⟨_, rfl⟩
  obtain ⟨nb, hnb⟩ : ∃ b, b = w1.heap.size := ⟨_, rfl⟩
  have hh : W.heap[nb]? = some (.cells #[.int .i64 i.con, .int .i64 i.thk, .int .i64 i.rid, .int .i64 i.prs] 174 (0, 0)) := by rw [hW, hnb]; exact heap_alloc_new _ _
  have hs : W.heap[sb]? = some (.cells (celA x) 188 (0, 0)) := by rw [hW]; exact heap_alloc' hs1 _
  have bW : Below w.heap.size w W := by rw [hW]; exact bb.alloc bb.size _
  rw [← hW, ← hnb]
  have ka := allHas_any nb sb (hasN x i) W (fun (k : Nat) hk wx hx => has1_any x i nb sb k hk wx ((hx.block _ (heap_lt hh)).trans hh) ((hx.block _ (heap_lt hs)).trans hs))
  have hk : (hasN x i 0 && hasN x i 1 && hasN x i 2 && hasN x i 3) = r := HR.out.2.2.symm
  rw [hk] at ka
  have HA := Lib.hid (And.intro ka bW)
  clear ka bW hh hs hW hnb bb b1 hs1 hk c0 c1 c2 c3 zi
  go_wp2_with (go_at_call 105; refine HA.out.1.mono ?_; rintro e w2 ⟨rfl, b2⟩)
  go_ret
  exact ⟨rfl, HA.out.2.trans (b2.mono HA.out.2.size)⟩

def ics (l : List Ice) : List Value := l.flatMap fun i => [.int .i64 i.con, .int .i64 i.thk, .int .i64 i.rid, .int .i64 i.prs]
theorem ics_get {l : List Ice} {k : Nat} (hk : k < l.length) : (ics l)[k*4]? = some (.int .i64 l[k].con) ∧ (ics l)[k*4+1]? = some (.int .i64 l[k].thk) ∧ (ics l)[k*4+2]? = some (.int .i64 l[k].rid) ∧ (ics l)[k*4+3]? = some (.int .i64 l[k].prs) := by
  induction l generalizing k with
  | nil => simp at hk
  | cons s l ih =>
    cases k with
    | zero => simp [ics]
    | succ k =>
      have h4 : ∀ j, (ics (s :: l))[4 + j]? = (ics l)[j]? := fun j => by
        simp only [ics, List.flatMap_cons]
        rw [List.getElem?_append_right (by simp)]
        simp
      have e : ∀ j, (k+1)*4 + j = 4 + (k*4 + j) := fun j => by omega
      have e0 : (k+1)*4 = 4 + k*4 := by omega
      have hk' : k < l.length := by simpa using hk
      rw [e, e, e, e0, h4, h4, h4, h4]
      simpa using ih hk'

set_option maxRecDepth 100000 in
set_option maxHeartbeats 1000000 in
theorem wrongIce_any (A : Option Addr) (c : Nat) (l : List Ice) (w : World) (hr : Rd w 4 A l.length (ics l)) (hm : l.length ≤ 9223372036854775807) (hok : ∀ x ∈ l, iceOk x = true) :
    Calls Try.prog 119 #[.slice A l.length c, .func (.func 61) #[] #[]] w fun e w' => e = .returned (.int .i64 0) ∧ Below w.heap.size w w' := by
  have HR := Lib.hid (And.intro hr hok)
  clear hr hok
  go_enter Try.func119, Try.ntmps119
  go_wp2_with fail
  go_loopw [10] (fun i wr => ∃ k : Nat, k ≤ l.length ∧ i = .int .i64 k ∧ Below w.heap.size w wr) (fun i _ => l.length - (intOf i).toNat)
  case atStart => exact ⟨0, Nat.zero_le _, rfl, Below.refl _ _⟩
  case round =>
    obtain ⟨k, hk, rfl, hb⟩ := hrel
    have HB := Lib.hid hb
    by_cases hlt : k < l.length
    · obtain ⟨b, off, rfl, zb, hc⟩ := (HR.out.1.below hb).2 (by omega)
      obtain ⟨x, hx⟩ : ∃ x, x = l[k] := ⟨_, rfl⟩
      obtain ⟨s0, s1, s2, s3⟩ := ics_get hlt
      rw [← hx] at s0 s1 s2 s3
      have c0 := hc _ _ s0
      have c1 : wr.cell? ⟨b, off + k*4 + 1, none⟩ = _ := hc _ _ s1
      have c2 : wr.cell? ⟨b, off + k*4 + 2, none⟩ = _ := hc _ _ s2
      have c3 : wr.cell? ⟨b, off + k*4 + 3, none⟩ = _ := hc _ _ s3
      have n2 : (k : Int) < (l.length : Int) := by omega
      have hxo := HR.out.2 x (by rw [hx]; exact List.getElem_mem hlt)
      have kc : ∀ wx, Calls Try.prog 61 #[.agg #[.int .i64 x.con, .int .i64 x.thk, .int .i64 x.rid, .int .i64 x.prs]] wx fun e w' => e = .returned (.int .i64 0) ∧ Below wx.heap.size wx w' := fun wx => by
        have := checkIce_any x wx
        unfold iceE at this
        rwa [if_pos hxo] at this
      have bal : Below wr.heap.size wr (wr.alloc (.cells #[.int .i64 x.con, .int .i64 x.thk, .int .i64 x.rid, .int .i64 x.prs] 111)) := (Below.refl _ _).alloc (Nat.le_refl _) _
      have HX := Lib.hid (And.intro kc (hb.trans (bal.mono hb.size)))
      clear s0 s1 s2 s3 hc kc hx hb bal hxo
      go_wp2_with (go_at_call 61; refine (HX.out.1 _).mono ?_; rintro e w2 ⟨rfl, b2⟩)
      go_roundw
      case measure => simp [intOf]; omega
      case rel => exact ⟨k + 1, by omega, by go_num, HX.out.2.trans (b2.mono HX.out.2.size)⟩
    · obtain rfl : k = l.length := by omega
      clear hb
      go_wp2_with fail
      go_ret
      exact ⟨rfl, HB.out⟩

/-- each ice is in its cell -/
def holdAll (l : List Cel) (f : List Ice) : Prop := f.length = l.length ∧ ∀ k (h1 : k < f.length) (h2 : k < l.length), hasB l[k] f[k] = true ∧ iceOk f[k] = true
set_option maxRecDepth 100000 in
set_option maxHeartbeats 4000000 in
theorem holds_ok (a b c : Int) (A : Option Addr) (ca : Nat) (l : List Cel) (Af : Option Addr) (cf : Nat) (f : List Ice) (w : World) (hr : Rd w 8 A l.length (cels l)) (hm : l.length ≤ 9223372036854775807) (hf : Rd w 4 Af f.length (ics f)) (h0 : chartE a b c l = 0) (hh : holdAll l f) :
    Calls Try.prog 72 #[.agg #[.int .i64 a, .int .i64 b, .int .i64 c, .slice A l.length ca], .slice Af f.length cf] w fun e w' => e = .returned (.tuple #[.bool true, .int .i64 0]) ∧ Below w.heap.size w w' := by
  obtain ⟨W, hW⟩ : ∃ W, W = w.alloc (.cells #[.int .i64 a, .int .i64 b, .int .i64 c, .slice A l.length ca] 114) := ⟨_, rfl⟩
  obtain ⟨ib, hib⟩ : ∃ b, b = w.heap.size := ⟨_, rfl⟩
  have hih : W.heap[ib]? = some (.cells #[.int .i64 a, .int .i64 b, .int .i64 c, .slice A l.length ca] 114 (0, 0)) := by rw [hW, hib]; exact heap_alloc_new _ _
  have bW : Below w.heap.size w W := by rw [hW]; exact (Below.refl _ _).alloc (Nat.le_refl _) _
  have kc := checkChart_any a b c A ca l W (hr.below bW) hm
  rw [h0] at kc
  have c0 := (cell_of_heap hih 0).trans rfl
  have c1 := (cell_of_heap hih 1).trans rfl
  have c2 := (cell_of_heap hih 2).trans rfl
  have c3 := (cell_of_heap hih 3).trans rfl
  have zb := heap_lt hih
  have hfl : f.length = l.length := hh.1
  have HR := Lib.hid (And.intro hih (And.intro bW (And.intro kc (And.intro hh (And.intro (hr.below bW) (hf.below bW))))))
  have HL := Lib.hid hfl
  have hne : ((f.length : Int) != (l.length : Int)) = false := by rw [hfl]; simp
  clear hih bW kc hh hr hf hfl h0
  go_enter Try.func72, Try.ntmps72
  go_upto_region 1 with fail
  rw [← hW, ← hib]
  clear hW hib
  go_wp2_with fail
  refine HR.out.2.2.1.mono ?_
  rintro e w1 ⟨rfl, b1⟩
  have hh1 := (b1.block _ (heap_lt HR.out.1)).trans HR.out.1
  clear c0 c1 c2 c3 zb
  have c3 := (cell_of_heap hh1 3).trans rfl
  have zb := heap_lt hh1
  have H1 := Lib.hid (And.intro hh1 (And.intro (HR.out.2.1.trans (b1.mono HR.out.2.1.size)) (And.intro (HR.out.2.2.2.2.1.below b1) (HR.out.2.2.2.2.2.below b1))))
  clear hh1 b1
  go_wp2_with fail
  refine (wrongIce_any Af cf f w1 H1.out.2.2.2 (by have := HL.out; omega) (fun x hx => by
    obtain ⟨k, hk, rfl⟩ := List.mem_iff_getElem.1 hx
    exact (HR.out.2.2.2.1.2 k hk (by have := HL.out; omega)).2)).mono ?_
  rintro e w2 ⟨rfl, b2⟩
  have hh2 := (b2.block _ (heap_lt H1.out.1)).trans H1.out.1
  have H2 := Lib.hid (And.intro hh2 (And.intro (H1.out.2.1.trans (b2.mono H1.out.2.1.size)) (And.intro (H1.out.2.2.1.below b2) (H1.out.2.2.2.below b2))))
  clear hh2 b2 c3 zb hne
  go_wp2_with fail
  go_loopw [28] (fun i wr => ∃ k : Nat, k ≤ f.length ∧ i = .int .i64 k ∧ Below w2.heap.size w2 wr) (fun i _ => f.length - (intOf i).toNat)
  case atStart => exact ⟨0, Nat.zero_le _, rfl, Below.refl _ _⟩
  case round =>
    obtain ⟨k, hk, rfl, hb⟩ := hrel
    have HB := Lib.hid hb
    by_cases hlt : k < f.length
    · have hll : k < l.length := by have := HL.out; omega
      obtain ⟨bl, ol, rfl, zl, hcl⟩ := H2.out.2.2.1.2 (by omega)
      obtain ⟨bf, of_, rfl, zf, hcf⟩ := H2.out.2.2.2.2 (by omega)
      obtain ⟨x, hx⟩ : ∃ x, x = l[k] := ⟨_, rfl⟩
      obtain ⟨i, hi⟩ : ∃ i, i = f[k] := ⟨_, rfl⟩
      obtain ⟨s0, s1, s2, s3, s4, s5, s6, s7⟩ := cels_get hll
      rw [← hx] at s0 s1 s2 s3 s4 s5 s6 s7
      obtain ⟨t0, t1, t2, t3⟩ := ics_get hlt
      rw [← hi] at t0 t1 t2 t3
      obtain ⟨WR, hWR⟩ : ∃ WR, WR = wr.alloc (.cells #[.int .i64 i.con, .int .i64 i.thk, .int .i64 i.rid, .int .i64 i.prs] 111) := ⟨_, rfl⟩
      obtain ⟨xb, hxb⟩ : ∃ xb, xb = wr.heap.size := ⟨_, rfl⟩
      have hxh : WR.heap[xb]? = some (.cells #[.int .i64 i.con, .int .i64 i.thk, .int .i64 i.rid, .int .i64 i.prs] 111 (0, 0)) := by rw [hWR, hxb]; exact heap_alloc_new _ _
      have bWR : Below w2.heap.size w2 WR := by rw [hWR]; exact hb.alloc hb.size _
      have u0 := (hb.cell (p := ⟨bf, of_ + k * 4, none⟩) zf).trans (hcf _ _ t0)
      have u1 : wr.cell? ⟨bf, of_ + k * 4 + 1, none⟩ = _ := (hb.cell (p := ⟨bf, of_ + (k * 4 + 1), none⟩) zf).trans (hcf _ _ t1)
      have u2 : wr.cell? ⟨bf, of_ + k * 4 + 2, none⟩ = _ := (hb.cell (p := ⟨bf, of_ + (k * 4 + 2), none⟩) zf).trans (hcf _ _ t2)
      have u3 : wr.cell? ⟨bf, of_ + k * 4 + 3, none⟩ = _ := (hb.cell (p := ⟨bf, of_ + (k * 4 + 3), none⟩) zf).trans (hcf _ _ t3)
      have KB : ∀ {b o : Nat} {u : Value}, w2.cell? ⟨b, o, none⟩ = some u → b < w2.heap.size → ∀ w', Below WR.heap.size WR w' → w'.cell? ⟨b, o, none⟩ = some u := fun {b o u} h hb2 w' hB => (hB.cell (p := ⟨b, o, none⟩) (Nat.lt_of_lt_of_le hb2 bWR.size)).trans ((bWR.cell (p := ⟨b, o, none⟩) hb2).trans h)
      have d0 := KB (hcl _ _ s0) zl
      have d1 : ∀ w', Below WR.heap.size WR w' → w'.cell? ⟨bl, ol + k*8 + 1, none⟩ = _ := KB (hcl _ _ s1) zl
      have d2 : ∀ w', Below WR.heap.size WR w' → w'.cell? ⟨bl, ol + k*8 + 2, none⟩ = _ := KB (hcl _ _ s2) zl
      have d3 : ∀ w', Below WR.heap.size WR w' → w'.cell? ⟨bl, ol + k*8 + 3, none⟩ = _ := KB (hcl _ _ s3) zl
      have d4 : ∀ w', Below WR.heap.size WR w' → w'.cell? ⟨bl, ol + k*8 + 4, none⟩ = _ := KB (hcl _ _ s4) zl
      have d5 : ∀ w', Below WR.heap.size WR w' → w'.cell? ⟨bl, ol + k*8 + 5, none⟩ = _ := KB (hcl _ _ s5) zl
      have d6 : ∀ w', Below WR.heap.size WR w' → w'.cell? ⟨bl, ol + k*8 + 6, none⟩ = _ := KB (hcl _ _ s6) zl
      have d7 : ∀ w', Below WR.heap.size WR w' → w'.cell? ⟨bl, ol + k*8 + 7, none⟩ = _ := KB (hcl _ _ s7) zl
      have c3 := KB ((cell_of_heap H2.out.1 3).trans rfl) (heap_lt H2.out.1)
      have KX : ∀ {o : Nat} {u : Value}, WR.cell? ⟨xb, o, none⟩ = some u → ∀ w', Below WR.heap.size WR w' → w'.cell? ⟨xb, o, none⟩ = some u := fun h w' hB => (hB.cell (World.block_lt_of_cell? WR _ h)).trans h
      have x0 := KX ((cell_of_heap hxh 0).trans rfl)
      have x1 := KX ((cell_of_heap hxh 1).trans rfl)
      have x2 := KX ((cell_of_heap hxh 2).trans rfl)
      have x3 := KX ((cell_of_heap hxh 3).trans rfl)
      have n2 : (k : Int) < (f.length : Int) := by omega
      have n3 : (k : Int) < (l.length : Int) := by omega
      have n4 : (0 : Int) ≤ (k : Int) := by omega
      have kh : ∀ wx, Calls Try.prog 121 #[.agg (celA x), .agg #[.int .i64 i.con, .int .i64 i.thk, .int .i64 i.rid, .int .i64 i.prs]] wx fun e w' => e = .returned (.bool true) ∧ Below wx.heap.size wx w' := fun wx => by
        have := has_any x i wx
        rwa [show hasB x i = true from by rw [hx, hi]; exact (HR.out.2.2.2.1.2 k hlt hll).1] at this
      have HX := Lib.hid (And.intro kh bWR)
      clear s0 s1 s2 s3 s4 s5 s6 s7 t0 t1 t2 t3 hcl hcf kh hx hi hb bWR KB KX hxh
      go_upto_region 12 with fail
      rw [← hWR, ← hxb]
      clear hWR hxb u0 u1 u2 u3
      go_region_held3 (fun w' => Below WR.heap.size WR w') (first | exact (Below.refl _ _).drew | assumption)
        (first
          | (go_at_call 120
             refine (spans_any x _).mono ?_
             rintro e w5 ⟨rfl, b5⟩
             have B5 : Below WR.heap.size WR w5 := (Below.refl _ _).drew.trans b5
             clear b5)
          | (go_at_call 121
             refine (HX.out.1 _).mono ?_
             rintro e w6 ⟨rfl, b6⟩
             have B6 : Below WR.heap.size WR w6 := B5.trans (b6.mono B5.size)
             clear b6))
      have H6 := Lib.hid B6
      clear B5 B6 c3 d0 d1 d2 d3 d4 d5 d6 d7 x0 x1 x2 x3
      go_wp2_with fail
      go_roundw
      case measure => simp [intOf]; omega
      case rel => exact ⟨k + 1, by omega, by go_num, HX.out.2.trans (H6.out.mono HX.out.2.size)⟩
    · obtain rfl : k = f.length := by omega
      clear hb
      go_wp2_with fail
      go_ret2
      exact ⟨rfl, H2.out.2.1.trans (HB.out.mono H2.out.2.1.size)⟩
end Go.Proofs.Ytfmhlnfcbbpfeaa
