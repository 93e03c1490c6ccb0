/- restrict.bounds, Bounds, Sure -/
import Derived.Test.YtalcinepeofmcaaDoorRSp1
import Derived.Test.YtalcinepeofmcaaDoorRSp4
import Derived.Test.YtalcinepeofmcaaDoorRSp3
import Derived.Deep.DeepCutAuto
import Derived.IntWalk
set_option linter.unusedVariables false
set_option linter.unusedSimpArgs false
namespace Go.Proofs.YtalcinepeofmcaaDoor
open Go Go.RowKit Sp
set_option linter.unusedVariables false
set_option linter.unusedSimpArgs false

def badSpn (s : Int × Int) : Bool := !within s.1 0 2000 || !within s.2 s.1 2000
/-- the error of a policy and spans -/
def spnE (p : Pol) (l : List (Int × Int)) : Int := if startS p [] ≠ 0 then startS p [] else if (400 : Int) < l.length then 2 else if l.any badSpn then 6 else 0
theorem start_nil (p : Pol) : startS p [] = checkS p := by unfold startS; split <;> simp_all
theorem spn_check {p : Pol} {l : List (Int × Int)} (h : startS p [] ≠ 0) : spnE p l = startS p [] := by unfold spnE; rw [if_pos h]
theorem spn_many {p : Pol} {l : List (Int × Int)} (h : startS p [] = 0) (hl : (400 : Int) < l.length) : spnE p l = 2 := by unfold spnE; rw [if_neg (fun f => f h), if_pos hl]
theorem spn_bad {p : Pol} {l : List (Int × Int)} (h : startS p [] = 0) (hl : (l.length : Int) ≤ 400) {k : Nat} (hk : k < l.length) (hb : badSpn l[k] = true) : spnE p l = 6 := by
  unfold spnE
  rw [if_neg (fun f => f h), if_neg (by omega), if_pos]
  exact List.any_eq_true.2 ⟨_, List.getElem_mem hk, hb⟩
theorem spn_ok {p : Pol} {l : List (Int × Int)} (h : startS p [] = 0) (hl : (l.length : Int) ≤ 400) (hb : ∀ s ∈ l, badSpn s = false) : spnE p l = 0 := by
  unfold spnE
  rw [if_neg (fun f => f h), if_neg (by omega), if_neg]
  intro h1
  obtain ⟨s, h2, h3⟩ := List.any_eq_true.1 h1
  rw [hb s h2] at h3; cases h3
theorem badSpn_lo {s : Int × Int} (h : within s.1 0 2000 = false) : badSpn s = true := by simp [badSpn, h]
theorem badSpn_hi {s : Int × Int} (h : within s.2 s.1 2000 = false) : badSpn s = true := by simp [badSpn, h]
theorem badSpn_no {s : Int × Int} (h : within s.1 0 2000 = true) (h2 : within s.2 s.1 2000 = true) : badSpn s = false := by simp [badSpn, h, h2]

/-- the two lists behind the first k spans -/
structure BndSt (W1 wr : World) (l : List (Int × Int)) (k : Nat) (A1 : Option Addr) (c1 : Nat) (q1 : List Nat) (A2 : Option Addr) (c2 : Nat) (q2 : List Nat) : Prop where
  o1 : OwnA wr 3 A1 k c1 (ints ((l.take k).map (·.1))) q1
  o2 : OwnA wr 3 A2 k c2 (ints ((l.take k).map (·.2))) q2
  dis : ∀ g ∈ q1, g ∉ q2
  in1 : ∀ g ∈ q1, W1.heap.size ≤ g
  in2 : ∀ g ∈ q2, W1.heap.size ≤ g
  kp : Keep [] W1 wr
  ok : ∀ s ∈ l.take k, badSpn s = false
theorem BndSt.start (W1 : World) (l : List (Int × Int)) : BndSt W1 W1 l 0 none 0 [] none 0 [] := ⟨by simpa [ints] using OwnA.nil _ _, by simpa [ints] using OwnA.nil _ _, by simp, by simp, by simp, Keep.refl _ _, by simp⟩

set_option linter.unusedVariables false
def BdV (W0 : World) (sb : Nat) (x y : Int) (A1 : Option Addr) (n c1 : Nat) (xs1 : List Value) (q1 : List Nat) (A2 : Option Addr) (c2 : Nat) (xs2 : List Value) (q2 : List Nat) (s : Gh2) : Nat → Value → Prop
  | 0, v => v = .slice A1 n c1
  | 1, v => v = .pointer (some ⟨sb, 0, none⟩)
  | 2, v => v = .int .i64 x
  | 3, v => v = .slice (some ⟨s.b1, 0, none⟩) 1 1
  | 4, v => v = .slice s.A1 s.n1 s.c1
  | 5, v => v = .slice A2 n c2
  | 6, v => v = .pointer (some ⟨sb, 1, none⟩)
  | 7, v => v = .int .i64 y
  | 8, v => v = .slice (some ⟨s.b2, 0, none⟩) 1 1
  | 9, v => v = .slice s.A2 s.n2 s.c2
  | 10, v => v = .slice s.A1 s.n1 s.c1
  | 11, v => v = .slice s.A2 s.n2 s.c2
  | _, _ => True
def BdW (W0 : World) (sb : Nat) (x y : Int) (A1 : Option Addr) (n c1 : Nat) (xs1 : List Value) (q1 : List Nat) (A2 : Option Addr) (c2 : Nat) (xs2 : List Value) (q2 : List Nat) (s : Gh2) (l : Nat → Bool) (w : World) : Prop := GW2 3 4 8 9 W0 3 3 (.int .i64 x) (.int .i64 y) A1 n c1 xs1 q1 A2 n c2 xs2 q2 s l w ∧ w.cell? ⟨sb, 0, none⟩ = some (.int .i64 x) ∧ w.cell? ⟨sb, 1, none⟩ = some (.int .i64 y)

/-- what bounds leaves -/
def bndPost (w : World) (p : Pol) (l : List (Int × Int)) (e : Ending) (w' : World) : Prop :=
  ∃ pp A1 n1 c1 A2 n2 c2, e = .returned (.tuple #[.agg #[.pointer pp], .slice A1 n1 c1, .slice A2 n2 c2, .int .i64 (spnE p l)]) ∧ Below w.heap.size w w' ∧
    (spnE p l = 0 → ∃ pb, pp = some ⟨pb, 0, none⟩ ∧ PolAt w' pb p ∧ n1 = l.length ∧ n2 = l.length ∧ Rd w' 1 A1 l.length (ints (l.map (·.1))) ∧ Rd w' 1 A2 l.length (ints (l.map (·.2))) ∧ l.length ≤ 400)

theorem bnd_results {W : World} {rb : Nat} {x : Value} (h : W.heap[rb]? = some (.cells #[x] 101 (0, 0))) (hx : ∃ pp, x = .pointer pp) (tmps : Array Value) (v5 v6 v7 : Value) (h4 : tmps.getD 4 undef = .pointer (some ⟨rb, 0, none⟩)) (h5 : tmps.getD 5 undef = v5) (h6 : tmps.getD 6 undef = v6) (h7 : tmps.getD 7 undef = v7) :
    (results Tryd.f39 tmps).run Tryd.prog W = .ok (.tuple #[.agg #[x], v5, v6, v7]) W := by
  obtain ⟨pp, rfl⟩ := hx
  have hr : Tryd.f39.results = #[.cell 4 101, .tmp 5, .tmp 6, .tmp 7] := rfl
  have g4 : tmps[4]?.getD undef = .pointer (some ⟨rb, 0, none⟩) := by simpa using h4
  have g5 : tmps[5]?.getD undef = v5 := by simpa using h5
  have g6 : tmps[6]?.getD undef = v6 := by simpa using h6
  have g7 : tmps[7]?.getD undef = v7 := by simpa using h7
  have c0 : W.cell? ⟨rb, 0, none⟩ = some (.pointer pp) := (cell_of_heap h 0).trans rfl
  simp [results, hr, g4, g5, g6, g7, asAddr, go_sem, c0]

theorem stcs_int {l : List Stp} {j : Nat} {u : Value} (h : (stcs l)[j]? = some u) : ∃ i, u = .int .i64 i := by
  have hm := List.mem_of_getElem? h
  simp only [stcs, stc, List.mem_flatMap] at hm
  obtain ⟨s, _, hm⟩ := hm
  simp at hm
  rcases hm with rfl | rfl | rfl | rfl <;> exact ⟨_, rfl⟩
/-- a store of the rules' pointer keeps the policy -/
theorem PolAt.setRules {W : World} {pb vb : Nat} {p : Pol} (h : PolAt W pb p) (hv : W.heap[vb]? = some (.cells #[.pointer none] 101 (0, 0))) (x : Value) : PolAt (W.setCell ⟨vb, 0, none⟩ x) pb p := by
  obtain ⟨A, c, h1, h2, h3, h4⟩ := h
  have hpv : pb ≠ vb := fun e => by
    subst e
    rw [h1] at hv
    injection hv with hv
    injection hv with e1 e2 _
    exact absurd e2 (by decide)
  refine ⟨A, c, heap_set_ne h1 hpv _, h2, h3, h4.1, fun h0 => ?_⟩
  obtain ⟨b, off, e, hb, hc⟩ := h4.2 h0
  refine ⟨b, off, e, by simpa [World.setCell] using hb, fun j u hu => ?_⟩
  have h5 := hc j u hu
  by_cases hbv : b = vb
  · exfalso
    subst hbv
    rw [cell_of_heap hv] at h5
    obtain ⟨i, rfl⟩ := stcs_int hu
    have hm := Array.mem_of_getElem? h5
    simp at hm
  · rw [World.cell?_setCell_other _ _ _ _ (by intro e; injection e with e; exact hbv (by first | exact e | exact e.symm))]; exact h5

set_option maxRecDepth 100000 in
set_option maxHeartbeats 4000000 in
theorem bounds_any (As : Option Addr) (cs : Nat) (p : Pol) (A : Option Addr) (c : Nat) (l : List (Int × Int)) (w : World) (hp : PolV w As cs p) (hr : Rd w 2 A l.length (spcs l)) (hm : l.length ≤ 9223372036854775807) :
    Calls Tryd.prog 39 #[.agg #[.slice As p.steps.length cs, .int .i64 p.hold, .int .i64 p.calm, .int .i64 p.notice, .int .i64 p.grace], .slice A l.length c] w (bndPost w p l) := by
  obtain ⟨i0, hi, hz0, hz1, hz2⟩ := info_parts info_int
  obtain ⟨er, her⟩ : ∃ er, er = startS p [] := ⟨_, rfl⟩
  obtain ⟨W0, hW0⟩ : ∃ W0, W0 = (w.alloc (.cells #[.slice As p.steps.length cs, .int .i64 p.hold, .int .i64 p.calm, .int .i64 p.notice, .int .i64 p.grace] 51)).alloc (.cells #[.pointer none] 101) := ⟨_, rfl⟩
  obtain ⟨vb, hvb⟩ : ∃ vb, vb = w.heap.size + 1 := ⟨_, rfl⟩
  have b0 : Below w.heap.size w W0 := by rw [hW0]; exact ((Below.refl _ _).alloc (Nat.le_refl _) _).alloc (by simp) _
  have hv0 : W0.heap[vb]? = some (.cells #[.pointer none] 101 (0, 0)) := by
    rw [hW0, hvb]
    have := heap_alloc_new (w.alloc (.cells #[.slice As p.steps.length cs, .int .i64 p.hold, .int .i64 p.calm, .int .i64 p.notice, .int .i64 p.grace] 51)) (.cells #[.pointer none] 101)
    rwa [World.size_alloc] at this
  have hb0 : W0.heap[w.heap.size]? = some (.cells #[.slice As p.steps.length cs, .int .i64 p.hold, .int .i64 p.calm, .int .i64 p.notice, .int .i64 p.grace] 51 (0, 0)) := by rw [hW0]; exact heap_alloc' (heap_alloc_new _ _) _
  have t0 := (cell_of_heap hb0 0).trans rfl
  have t1 := (cell_of_heap hb0 1).trans rfl
  have t2 := (cell_of_heap hb0 2).trans rfl
  have t3 := (cell_of_heap hb0 3).trans rfl
  have t4 := (cell_of_heap hb0 4).trans rfl
  have hst : Calls Tryd.prog 56 #[.agg #[.slice As p.steps.length cs, .int .i64 p.hold, .int .i64 p.calm, .int .i64 p.notice, .int .i64 p.grace], .slice none 0 0] W0
      fun e w1 => ∃ pp, e = .returned (.tuple #[.agg #[.pointer pp], .int .i64 er]) ∧ (er = 0 → ∃ pb, pp = some ⟨pb, 0, none⟩ ∧ PolAt w1 pb p) ∧ Below w.heap.size w w1 ∧ w1.heap[vb]? = some (.cells #[.pointer none] 101 (0, 0)) := by
    refine (start8_any As cs p none 0 [] W0 ⟨hp.1, hp.2.1, hp.2.2.below b0⟩ (Rd.nil _ _ _) (by simp)).mono ?_
    rintro e w1 ⟨pp, rfl, hB, h0, _⟩
    exact ⟨pp, by rw [her], fun h => h0 (her.symm.trans h), b0.trans (hB.mono b0.size), (hB.block _ (heap_lt hv0)).trans hv0⟩
  have hwv : w.heap.size ≤ vb := by omega
  have HP := Lib.hid (And.intro her (And.intro hr (And.intro hst (And.intro hW0 hvb))))
  clear her hst b0 hr hv0 hb0
  go_enter Tryd.func39, Tryd.ntmps39
  go_upto_region 1 with fail
  rw [← hW0, ← hvb]
  clear hW0 hvb
  go_wp2_with fail
  refine HP.out.2.2.1.mono ?_
  rintro e w1 ⟨pp, rfl, hpol, b1, hv1⟩
  clear t0 t1 t2 t3 t4
  obtain ⟨W1, hW1⟩ : ∃ W1, W1 = w1.alloc (.cells #[.pointer pp] 101) := ⟨_, rfl⟩
  obtain ⟨rb, hrb⟩ : ∃ rb, rb = w1.heap.size := ⟨_, rfl⟩
  have bw : Below w1.heap.size w1 W1 := by rw [hW1]; exact (Below.refl _ _).alloc (Nat.le_refl _) _
  have fr : W1.cell? ⟨rb, 0, none⟩ = some (.pointer pp) := by rw [hW1, hrb]; exact cell_new_one _ _ _
  have hv2 : W1.heap[vb]? = some (.cells #[.pointer none] 101 (0, 0)) := (bw.block _ (heap_lt hv1)).trans hv1
  have b2 : Below w.heap.size w W1 := b1.trans (bw.mono b1.size)
  have hpol2 : er = 0 → ∃ pb, pp = some ⟨pb, 0, none⟩ ∧ PolAt W1 pb p := fun h => by
    obtain ⟨pb, e1, e2⟩ := hpol h
    exact ⟨pb, e1, e2.below bw⟩
  have f0 := (cell_of_heap hv2 0).trans rfl
  have g0 := frozen_of_heap hv2 0
  have HB := Lib.hid (And.intro b2 (And.intro hv2 (And.intro hpol2 (HP.out.2.1.below b2))))
  clear hpol b1 hv1 bw hv2 b2 hpol2
  go_upto_region 2 with fail
  rw [← hW1, ← hrb]
  clear hW1 hrb
  have hend : ∀ W, Below W1.heap.size W1 W → (W.setCell ⟨vb, 0, none⟩ (.pointer pp)).heap[vb]? = some (.cells #[.pointer pp] 101 (0, 0)) ∧ Below w.heap.size w (W.setCell ⟨vb, 0, none⟩ (.pointer pp)) := fun W hB =>
    ⟨heap_set ((hB.block _ (heap_lt HB.out.2.1)).trans HB.out.2.1) 0 _, (HB.out.1.trans (hB.mono HB.out.1.size)).setCell hwv _⟩
  have HE := Lib.hid hend
  clear hend
  by_cases h0 : er = 0
  · subst h0
    have hs0 : startS p [] = 0 := HP.out.1.symm
    have HS := Lib.hid hs0
    clear hs0
    by_cases hmany : 400 < l.length
    · have hmany' : (400 : Int) < (l.length : Int) := by omega
      go_wp2_with fail
      have hf := spn_many HS.out hmany'
      exact bodyPost_ret (bnd_results (HE.out _ (Below.refl _ _)).1 ⟨_, rfl⟩ _ _ _ _ rfl rfl rfl rfl) rfl ⟨_, _, _, _, _, _, _, by rw [hf]; rfl, (HE.out _ (Below.refl _ _)).2, fun h => by rw [hf] at h; cases h⟩
    · go_wp2_with fail
      go_loopw [10, 11, 32] (fun o1 o2 i wr => ∃ (k : Nat) (A1 : Option Addr) (c1 : Nat) (q1 : List Nat) (A2 : Option Addr) (c2 : Nat) (q2 : List Nat), k ≤ l.length ∧ i = .int .i64 k ∧ o1 = .slice A1 k c1 ∧ o2 = .slice A2 k c2 ∧
          BndSt W1 wr l k A1 c1 q1 A2 c2 q2) (fun _ _ i _ => l.length - (intOf i).toNat)
      case atStart => exact ⟨0, none, 0, [], none, 0, [], Nat.zero_le _, rfl, rfl, rfl, BndSt.start _ _⟩
      case round =>
        obtain ⟨k, A1, c1, q1, A2, c2, q2, hk, rfl, rfl, rfl, hS⟩ := hrel
        by_cases hlt : k < l.length
        · obtain ⟨x, y, hx, hy, hxy⟩ : ∃ x y, x = l[k].1 ∧ y = l[k].2 ∧ l[k] = (x, y) := ⟨_, _, rfl, rfl, rfl⟩
          obtain ⟨bs, os, rfl, hbs, hcs⟩ := (HB.out.2.2.2).2 (by omega)
          obtain ⟨s0, s1⟩ := spcs_get hlt
          rw [← hx] at s0
          rw [← hy] at s1
          have hbw : Below W1.heap.size W1 wr := hS.kp.below (Nat.le_refl _) (by simp)
          have d0 := (hbw.cell (p := ⟨bs, os + k * 2, none⟩) hbs).trans (hcs _ _ s0)
          have d1 := (hbw.cell (p := ⟨bs, os + (k * 2 + 1), none⟩) hbs).trans (hcs _ _ s1)
          rw [← Nat.add_assoc] at d1
          have e1 := (hbw.cell (p := ⟨vb, 0, none⟩) (World.block_lt_of_cell? W1 _ f0)).trans f0
          have e2 := (hbw.frozen (p := ⟨vb, 0, none⟩) (World.block_lt_of_cell? W1 _ f0)).trans g0
          have e3 := (hbw.cell (p := ⟨rb, 0, none⟩) (World.block_lt_of_cell? W1 _ fr)).trans fr
          have z1 : vb < wr.heap.size := Nat.lt_of_lt_of_le (World.block_lt_of_cell? W1 _ f0) hbw.size
          have z2 : rb < wr.heap.size := Nat.lt_of_lt_of_le (World.block_lt_of_cell? W1 _ fr) hbw.size
          obtain ⟨i1, hd1⟩ : ∃ d, d = within x 0 2000 := ⟨_, rfl⟩
          obtain ⟨i2, hd2⟩ : ∃ d, d = within y x 2000 := ⟨_, rfl⟩
          have hi1 : ∀ wx, Calls Tryd.prog 22 #[.int .i64 x, .int .i64 0, .int .i64 2000] wx fun e w' => e = .returned (.bool i1) ∧ wx = w' := fun wx => by rw [hd1]; exact within_any x 0 _ wx
          have hi2 : ∀ wx, Calls Tryd.prog 22 #[.int .i64 y, .int .i64 x, .int .i64 2000] wx fun e w' => e = .returned (.bool i2) ∧ wx = w' := fun wx => by rw [hd2]; exact within_any y x _ wx
          have HD := Lib.hid (And.intro hd1 (And.intro hd2 (And.intro hi1 (And.intro hi2 (And.intro hx (And.intro hy (And.intro hxy hbw)))))))
          have HST := Lib.hid hS
          clear hd1 hd2 hi1 hi2 hx hy hxy hS hbw s0 s1 hcs fr f0 g0
          have hbU : Below wr.heap.size wr (wr.alloc (.cells #[.int .i64 x, .int .i64 y] 28)) := (Below.refl _ _).alloc (Nat.le_refl _) _
          have hB : Below W1.heap.size W1 (wr.alloc (.cells #[.int .i64 x, .int .i64 y] 28)) := HD.out.2.2.2.2.2.2.2.trans (hbU.mono HD.out.2.2.2.2.2.2.2.size)
          have HBU := Lib.hid (And.intro hbU hB)
          clear hbU hB
          cases i1
          · go_wp2_with (go_at_call 22; (with_reducible refine (HD.out.2.2.1 _).mono ?_); rintro e w2 ⟨rfl, rfl⟩)
            have hf := spn_bad HS.out (by omega) hlt (by rw [HD.out.2.2.2.2.2.2.1]; exact badSpn_lo HD.out.1.symm)
            exact bodyPost_ret (bnd_results (heap_alloc' (HE.out wr HD.out.2.2.2.2.2.2.2).1 _) ⟨_, rfl⟩ _ _ _ _ rfl rfl rfl rfl) rfl ⟨_, _, _, _, _, _, _, by rw [hf]; rfl, (HE.out wr HD.out.2.2.2.2.2.2.2).2.alloc (HE.out wr HD.out.2.2.2.2.2.2.2).2.size _, fun h => by rw [hf] at h; cases h⟩
          · cases i2
            · go_wp2_with (first | (go_at_call 22; (with_reducible refine (HD.out.2.2.1 _).mono ?_); rintro e w2 ⟨rfl, rfl⟩) | (go_at_call 22; (with_reducible refine (HD.out.2.2.2.1 _).mono ?_); rintro e w2 ⟨rfl, rfl⟩))
              have hf := spn_bad HS.out (by omega) hlt (by rw [HD.out.2.2.2.2.2.2.1]; exact badSpn_hi HD.out.2.1.symm)
              exact bodyPost_ret (bnd_results (heap_alloc' (HE.out wr HD.out.2.2.2.2.2.2.2).1 _) ⟨_, rfl⟩ _ _ _ _ rfl rfl rfl rfl) rfl ⟨_, _, _, _, _, _, _, by rw [hf]; rfl, (HE.out wr HD.out.2.2.2.2.2.2.2).2.alloc (HE.out wr HD.out.2.2.2.2.2.2.2).2.size _, fun h => by rw [hf] at h; cases h⟩
            · go_upto_region 12 with (first | (go_at_call 22; (with_reducible refine (HD.out.2.2.1 _).mono ?_); rintro e w2 ⟨rfl, rfl⟩) | (go_at_call 22; (with_reducible refine (HD.out.2.2.2.1 _).mono ?_); rintro e w2 ⟨rfl, rfl⟩))
              obtain ⟨U, hU⟩ : ∃ U, U = wr.alloc (.cells #[.int .i64 x, .int .i64 y] 28) := ⟨_, rfl⟩
              obtain ⟨sb, hsb⟩ : ∃ sb, sb = wr.heap.size := ⟨_, rfl⟩
              have hsh : U.heap[sb]? = some (.cells #[.int .i64 x, .int .i64 y] 28 (0, 0)) := by rw [hU, hsb]; exact heap_alloc_new _ _
              have d0' : U.drew.cell? ⟨sb, 0, none⟩ = some (.int .i64 x) := (cell_of_heap (w := U) hsh 0).trans rfl
              have d1' : U.drew.cell? ⟨sb, 1, none⟩ = some (.int .i64 y) := (cell_of_heap (w := U) hsh 1).trans rfl
              have hns : sb ∉ q1 ∧ sb ∉ q2 ∧ sb < U.heap.size := ⟨fun hm => by have := HST.out.o1.lt _ hm; omega, fun hm => by have := HST.out.o2.lt _ hm; omega, heap_lt hsh⟩
              have HST0 := HST
              have hst3 : OwnA U 3 A1 k c1 (ints ((l.take k).map (·.1))) q1 ∧ OwnA U 3 A2 k c2 (ints ((l.take k).map (·.2))) q2 ∧ ∀ g ∈ q1, g ∉ q2 := by rw [hU]; exact ⟨HST0.out.o1.alloc _, HST0.out.o2.alloc _, HST0.out.dis⟩
              have kU : Keep [] W1 U := by rw [hU]; exact HST0.out.kp.alloc _
              clear HST
              have HST := Lib.hid hst3
              have HSB := Lib.hid hns
              have HKU := Lib.hid kU
              have hsz : W1.heap.size ≤ U.heap.size := kU.size
              clear hst3 hns kU hsh d0 d1 e1 e2 e3 z1 z2
              rw [← hU, ← hsb]
              clear hU hsb
              refine wp_region_steps (σ := Gh2) (by kernel_rfl) (by kernel_rfl) (fun sg jx vx _ => BdV U sb x y A1 k c1 (ints ((l.take k).map (·.1))) q1 A2 c2 (ints ((l.take k).map (·.2))) q2 sg jx vx) (fun sg ly wx => BdW U sb x y A1 k c1 (ints ((l.take k).map (·.1))) q1 A2 c2 (ints ((l.take k).map (·.2))) q2 sg ly wx) ⟨A1, k, c1, ints ((l.take k).map (·.1)), q1, 0, A2, k, c2, ints ((l.take k).map (·.2)), q2, 0⟩ ?_ ?_ ?_
              · exact ⟨GW2.start HST.out.1 HST.out.2.1 HST.out.2.2, d0', d1'⟩
              · simp only [AllFrom, Nat.zero_add, Nat.reduceAdd]
                refine ⟨?_, ?_, ?_, ?_, ?_, ?_, ?_, ?_, ?_, ?_, ?_, ?_, trivial⟩
                · refine step_pure fun sg ly a wr hl hd hW hF => ?_
                  have ny10_4 := hF.notYet 0 4 hl (by kernel_rfl)
                  have ny10 := hF.notYet 4 10 ny10_4 (by kernel_rfl)
                  have et10 := hF.was 10 10 ny10 (by kernel_rfl)
                  simp [Act.eval] at et10
                  exact ⟨⟨hW.1.other (by decide), hW.2⟩, .slice A1 k c1, by go_simp, rfl⟩
                · refine step_pure fun sg ly a wr hl hd hW hF => ?_
                  have et13 := hF.old 13 (by kernel_rfl)
                  simp [Act.eval] at et13
                  exact ⟨⟨hW.1.other (by decide), hW.2⟩, .pointer (some ⟨sb, 0, none⟩), by go_simp, rfl⟩
                · refine step_pure fun sg ly a wr hl hd hW hF => ?_
                  simp [Region.binds] at hd
                  have et50 := hF.new 1 50 (by simp [hd]) rfl
                  simp [BdV, Act.eval] at et50
                  have c0 := hW.2.1
                  exact ⟨⟨hW.1.other (by decide), hW.2⟩, .int .i64 x, by go_simp, rfl⟩
                · refine step_run fun sg ly a wr hl hd hW hF => ?_
                  simp [Region.binds] at hd
                  have et51 := hF.new 2 51 (by simp [hd]) rfl
                  simp [BdV, Act.eval] at et51
                  have hbx : Below wr.heap.size wr (wr.alloc (.cells #[.int .i64 x] 3)) := (Below.refl _ _).alloc (Nat.le_refl _) _
                  refine ⟨.slice (some ⟨wr.heap.size, 0, none⟩) 1 1, wr.alloc (.cells #[.int .i64 x] 3), { sg with b1 := wr.heap.size }, by go_simp, ⟨hW.1.build1 _ (by decide), (hbx.cell (World.block_lt_of_cell? _ _ hW.2.1)).trans hW.2.1, (hbx.cell (World.block_lt_of_cell? _ _ hW.2.2)).trans hW.2.2⟩, rfl, ?_⟩
                  intro i u hi h
                  have i3 : i ≠ 3 := by rintro rfl; rw [hl] at hi; cases hi
                  unfold BdV at h ⊢
                  split at h <;> first | exact h | exact absurd rfl i3
                · intro sg ly a wr hl hd hW hF
                  simp [Region.binds] at hd
                  have et49 := hF.new 0 49 (by simp [hd]) rfl
                  simp [BdV, Act.eval] at et49
                  have et52 := hF.new 3 52 (by simp [hd]) rfl
                  simp [BdV, Act.eval] at et52
                  have nz := hF.notYet 4 10 hl (by kernel_rfl)
                  have y3 : ly 3 = true := by simp [hd]
                  obtain ⟨e1, e2, e3, e4⟩ := hW.1.a1 hl
                  have ow := hW.1.o1
                  rw [e1, e2, e3, e4] at ow
                  obtain ⟨ct, _, _, _⟩ := hW.1.t1 y3
                  have ns : sb ∉ sg.f1 := fun hm => by rcases hW.1.in1 sb hm with h5 | h5; exact HSB.out.1 h5; exact absurd h5 (by have := HSB.out.2.2; omega)
                  refine wp_append_A (.tmp 49) (.tmp 52) 40 rfl i0 _ 8 Tryd.underlying40 hi hz0 hz1 hz2 rfl (by simpa [Act.eval] using et49) _ (by simpa [Act.eval] using et52) (.int .i64 x) ow ct rfl (by omega) (by omega) ?_
                  intro g off c' w' h1 h2 h3 h4
                  refine ⟨{ sg with A1 := some ⟨g, off, none⟩, n1 := k + 1, c1 := c', xs1 := _, f1 := [g] }, _, rfl, ⟨hW.1.app1 hl (by decide) h1 h2 h4, h4.cell hW.2.1 ns, h4.cell hW.2.2 ns⟩, fun _ => rfl, ?_⟩
                  intro i u hi h
                  have i4 : i ≠ 4 := by rintro rfl; rw [hl] at hi; cases hi
                  have i10 : i ≠ 10 := by rintro rfl; rw [nz] at hi; cases hi
                  unfold BdV at h ⊢
                  split at h <;> first | exact h | exact absurd rfl i4 | exact absurd rfl i10
                · refine step_pure fun sg ly a wr hl hd hW hF => ?_
                  have ny11_9 := hF.notYet 5 9 hl (by kernel_rfl)
                  have ny11 := hF.notYet 9 11 ny11_9 (by kernel_rfl)
                  have et11 := hF.was 11 11 ny11 (by kernel_rfl)
                  simp [Act.eval] at et11
                  exact ⟨⟨hW.1.other (by decide), hW.2⟩, .slice A2 k c2, by go_simp, rfl⟩
                · refine step_pure fun sg ly a wr hl hd hW hF => ?_
                  have et13 := hF.old 13 (by kernel_rfl)
                  simp [Act.eval] at et13
                  exact ⟨⟨hW.1.other (by decide), hW.2⟩, .pointer (some ⟨sb, 1, none⟩), by go_simp, rfl⟩
                · refine step_pure fun sg ly a wr hl hd hW hF => ?_
                  simp [Region.binds] at hd
                  have et55 := hF.new 6 55 (by simp [hd]) rfl
                  simp [BdV, Act.eval] at et55
                  have c0 := hW.2.2
                  exact ⟨⟨hW.1.other (by decide), hW.2⟩, .int .i64 y, by go_simp, rfl⟩
                · refine step_run fun sg ly a wr hl hd hW hF => ?_
                  simp [Region.binds] at hd
                  have et56 := hF.new 7 56 (by simp [hd]) rfl
                  simp [BdV, Act.eval] at et56
                  have hbx : Below wr.heap.size wr (wr.alloc (.cells #[.int .i64 y] 3)) := (Below.refl _ _).alloc (Nat.le_refl _) _
                  refine ⟨.slice (some ⟨wr.heap.size, 0, none⟩) 1 1, wr.alloc (.cells #[.int .i64 y] 3), { sg with b2 := wr.heap.size }, by go_simp, ⟨hW.1.build2 _ (by decide), (hbx.cell (World.block_lt_of_cell? _ _ hW.2.1)).trans hW.2.1, (hbx.cell (World.block_lt_of_cell? _ _ hW.2.2)).trans hW.2.2⟩, rfl, ?_⟩
                  intro i u hi h
                  have i8 : i ≠ 8 := by rintro rfl; rw [hl] at hi; cases hi
                  unfold BdV at h ⊢
                  split at h <;> first | exact h | exact absurd rfl i8
                · intro sg ly a wr hl hd hW hF
                  simp [Region.binds] at hd
                  have et54 := hF.new 5 54 (by simp [hd]) rfl
                  simp [BdV, Act.eval] at et54
                  have et57 := hF.new 8 57 (by simp [hd]) rfl
                  simp [BdV, Act.eval] at et57
                  have nz := hF.notYet 9 11 hl (by kernel_rfl)
                  have y8 : ly 8 = true := by simp [hd]
                  obtain ⟨e1, e2, e3, e4⟩ := hW.1.a2 hl
                  have ow := hW.1.o2
                  rw [e1, e2, e3, e4] at ow
                  obtain ⟨ct, _, _, _⟩ := hW.1.t2 y8
                  have ns : sb ∉ sg.f2 := fun hm => by rcases hW.1.in2 sb hm with h5 | h5; exact HSB.out.2.1 h5; exact absurd h5 (by have := HSB.out.2.2; omega)
                  refine wp_append_A (.tmp 54) (.tmp 57) 40 rfl i0 _ 8 Tryd.underlying40 hi hz0 hz1 hz2 rfl (by simpa [Act.eval] using et54) _ (by simpa [Act.eval] using et57) (.int .i64 y) ow ct rfl (by omega) (by omega) ?_
                  intro g off c' w' h1 h2 h3 h4
                  refine ⟨{ sg with A2 := some ⟨g, off, none⟩, n2 := k + 1, c2 := c', xs2 := _, f2 := [g] }, _, rfl, ⟨hW.1.app2 hl (by decide) h1 h2 h4, h4.cell hW.2.1 ns, h4.cell hW.2.2 ns⟩, fun _ => rfl, ?_⟩
                  intro i u hi h
                  have i9 : i ≠ 9 := by rintro rfl; rw [hl] at hi; cases hi
                  have i11 : i ≠ 11 := by rintro rfl; rw [nz] at hi; cases hi
                  unfold BdV at h ⊢
                  split at h <;> first | exact h | exact absurd rfl i9 | exact absurd rfl i11
                · refine step_pure fun sg ly a wr hl hd hW hF => ?_
                  simp [Region.binds] at hd
                  have et53 := hF.new 4 53 (by simp [hd]) rfl
                  simp [BdV, Act.eval] at et53
                  exact ⟨⟨hW.1.other (by decide), hW.2⟩, .slice sg.A1 sg.n1 sg.c1, by go_simp, rfl⟩
                · refine step_pure fun sg ly a wr hl hd hW hF => ?_
                  simp [Region.binds] at hd
                  have et58 := hF.new 9 58 (by simp [hd]) rfl
                  simp [BdV, Act.eval] at et58
                  exact ⟨⟨hW.1.other (by decide), hW.2⟩, .slice sg.A2 sg.n2 sg.c2, by go_simp, rfl⟩
              intro sg a w3 hW hF
              have v10 := hF.new 10 10 rfl rfl
              have v11 := hF.new 11 11 rfl rfl
              simp only [BdV] at v10 v11
              obtain ⟨f, hf, rfl⟩ := hF.lit
              have f10 := (hf 10).trans v10
              have f11 := (hf 11).trans v11
              obtain ⟨hG, _, _⟩ := hW
              obtain ⟨m1, x1⟩ := hG.z1 rfl
              obtain ⟨m2, x2⟩ := hG.z2 rfl
              rw [m1] at f10
              rw [m2] at f11
              have hS : BndSt W1 w3 l (k + 1) sg.A1 sg.c1 sg.f1 sg.A2 sg.c2 sg.f2 := by
                have o1 := hG.o1
                have o2 := hG.o2
                rw [m1, x1] at o1
                rw [m2, x2] at o2
                have e1 : (l.take (k + 1)) = l.take k ++ [l[k]] := List.take_succ_eq_append_getElem hlt
                have hx := HD.out.2.2.2.2.2.2.1
                rw [hx] at e1
                refine ⟨by rw [e1]; simpa [ints] using o1, by rw [e1]; simpa [ints] using o2, hG.dis, fun g hg => ?_, fun g hg => ?_, HKU.out.trans hG.kp (fun g hg => ?_), fun z hz => ?_⟩
                · rcases hG.in1 g hg with h5 | h5
                  · exact HST0.out.in1 g h5
                  · omega
                · rcases hG.in2 g hg with h5 | h5
                  · exact HST0.out.in2 g h5
                  · omega
                · rcases List.mem_append.1 hg with h5 | h5
                  · exact .inr (HST0.out.in1 g h5)
                  · exact .inr (HST0.out.in2 g h5)
                · rw [e1] at hz
                  rcases List.mem_append.1 hz with h5 | h5
                  · exact HST0.out.ok z h5
                  · rw [List.mem_singleton.1 h5]
                    exact badSpn_no HD.out.1.symm HD.out.2.1.symm
              have HS3 := Lib.hid hS
              simp only [List.filterMap, List.foldl, List.setIfInBounds_toArray, List.set_cons_succ, List.set_cons_zero]
              rw [f10, f11]
              generalize sg.A1 = B1 at HS3 ⊢
              generalize sg.A2 = B2 at HS3 ⊢
              generalize sg.c1 = D1 at HS3 ⊢
              generalize sg.c2 = D2 at HS3 ⊢
              generalize sg.f1 = F1 at HS3
              generalize sg.f2 = F2 at HS3
              clear hf hF v10 v11 f10 f11 hG m1 m2 x1 x2 hS
              go_wp2_with fail
              go_roundw
              case measure => simp [intOf]; omega
              case rel => exact ⟨k + 1, B1, D1, F1, B2, D2, F2, by omega, by go_num, rfl, rfl, HS3.out⟩
        · obtain rfl : k = l.length := by omega
          have hbw : Below W1.heap.size W1 wr := hS.kp.below (Nat.le_refl _) (by simp)
          have e1 := (hbw.cell (p := ⟨vb, 0, none⟩) (World.block_lt_of_cell? W1 _ f0)).trans f0
          have e2 := (hbw.frozen (p := ⟨vb, 0, none⟩) (World.block_lt_of_cell? W1 _ f0)).trans g0
          have e3 := (hbw.cell (p := ⟨rb, 0, none⟩) (World.block_lt_of_cell? W1 _ fr)).trans fr
          have hvl := World.block_lt_of_cell? W1 _ f0
          have HST := Lib.hid (And.intro hS hbw)
          clear hS hbw fr f0 g0
          go_wp2_with fail
          have hst := HST.out.1
          have hf := spn_ok (l := l) HS.out (by omega) (fun s hs => hst.ok s (by rw [List.take_length]; exact hs))
          obtain ⟨pb, rfl, hpa⟩ := HB.out.2.2.1 trivial
          refine bodyPost_ret (bnd_results (HE.out wr HST.out.2).1 ⟨_, rfl⟩ _ _ _ _ rfl rfl rfl rfl) rfl ⟨_, _, _, _, _, _, _, by rw [hf]; rfl, (HE.out wr HST.out.2).2, fun _ => ⟨pb, rfl, ?_, rfl, rfl, ?_, ?_, by omega⟩⟩
          · exact (hpa.below HST.out.2).setRules ((HST.out.2.block _ (heap_lt HB.out.2.1)).trans HB.out.2.1) _
          · have := (hst.o1.setCell (p := ⟨vb, 0, none⟩) (fun hm => by have := hst.in1 _ hm; simp at this; omega) (.pointer (some ⟨pb, 0, none⟩))).rd
            rwa [List.take_length] at this
          · have := (hst.o2.setCell (p := ⟨vb, 0, none⟩) (fun hm => by have := hst.in2 _ hm; simp at this; omega) (.pointer (some ⟨pb, 0, none⟩))).rd
            rwa [List.take_length] at this
  · have hne : (er != 0) = true := by simp [h0]
    have HK := Lib.hid h0
    clear h0
    go_wp2_with fail
    have hf := spn_check (l := l) (p := p) (by rw [← HP.out.1]; exact HK.out)
    exact bodyPost_ret (bnd_results (HE.out _ (Below.refl _ _)).1 ⟨_, rfl⟩ _ _ _ _ rfl rfl rfl rfl) rfl ⟨_, _, _, _, _, _, _, by rw [hf, ← HP.out.1]; rfl, (HE.out _ (Below.refl _ _)).2, fun h => by rw [hf, ← HP.out.1] at h; exact absurd h HK.out⟩

/-- what Bounds answers -/
def bndS (p : Pol) (l : List (Int × Int)) : List (Int × Int) := (List.range l.length).map fun k => ((forceS p (l.map (·.1))).getD k 0, (forceS p (l.map (·.2))).getD k 0)
theorem bndS_length (p : Pol) (l : List (Int × Int)) : (bndS p l).length = l.length := by simp [bndS]
theorem bndS_take (p : Pol) (l : List (Int × Int)) {k : Nat} (hk : k < l.length) : (bndS p l).take (k + 1) = (bndS p l).take k ++ [((forceS p (l.map (·.1))).getD k 0, (forceS p (l.map (·.2))).getD k 0)] := by
  rw [List.take_succ_eq_append_getElem (by rw [bndS_length]; exact hk)]
  simp [bndS]
def BoundsPost (w : World) (p : Pol) (l : List (Int × Int)) (e : Ending) (w' : World) : Prop :=
  ∃ A n c, e = .returned (.tuple #[.slice A n c, .int .i64 (spnE p l)]) ∧ Below w.heap.size w w' ∧ (spnE p l = 0 → n = l.length ∧ Rd w' 2 A l.length (spcs (bndS p l))) ∧ (spnE p l ≠ 0 → n = 0)

end Go.Proofs.YtalcinepeofmcaaDoor
/- restrict.Sure -/
namespace Go.Proofs.YtalcinepeofmcaaDoor
open Go Go.RowKit Sp
set_option linter.unusedVariables false

/-- what Sure answers -/
def sureE (p : Pol) (l : List (Int × Int)) (v : Ves) (day : Int) : Int := if spnE p l ≠ 0 then spnE p l else if vright v = false then 1 else if within day 0 ((l.length : Int) - 1) then 0 else 6
def sureB (p : Pol) (l : List (Int × Int)) (v : Ves) (day : Int) : Bool := if sureE p l v day = 0 then (passesS p (l.map (·.2)) v).getD day.toNat false else false
def perhB (p : Pol) (l : List (Int × Int)) (v : Ves) (day : Int) : Bool := if sureE p l v day = 0 then (passesS p (l.map (·.1)) v).getD day.toNat false else false
theorem sure_not {p : Pol} {l : List (Int × Int)} {v : Ves} {day e : Int} (h : sureE p l v day = e) (he : e ≠ 0) : sureB p l v day = false ∧ perhB p l v day = false := by
  unfold sureB perhB
  rw [h, if_neg he, if_neg he]; exact ⟨rfl, rfl⟩
theorem sure_spn {p : Pol} {l : List (Int × Int)} {v : Ves} {day : Int} (h : spnE p l ≠ 0) : sureE p l v day = spnE p l := by unfold sureE; rw [if_pos h]
theorem sure_arg {p : Pol} {l : List (Int × Int)} {v : Ves} {day : Int} (h : spnE p l = 0) (hv : vright v = false) : sureE p l v day = 1 := by unfold sureE; rw [if_neg (fun f => f h), if_pos hv]
theorem sure_day {p : Pol} {l : List (Int × Int)} {v : Ves} {day : Int} (h : spnE p l = 0) (hv : vright v = true) : sureE p l v day = if within day 0 ((l.length : Int) - 1) then 0 else 6 := by unfold sureE; rw [if_neg (fun f => f h), if_neg (by rw [hv]; decide)]
def SurePost (w : World) (p : Pol) (l : List (Int × Int)) (v : Ves) (day : Int) (e : Ending) (w' : World) : Prop :=
  e = .returned (.tuple #[.bool (sureB p l v day), .bool (perhB p l v day), .int .i64 (sureE p l v day)]) ∧ Below w.heap.size w w'

structure SuS where
  g1 : Nat
  o1 : Nat
  c1 : Nat
  g2 : Nat
  o2 : Nat
  c2 : Nat
set_option linter.unusedVariables false
def SuV (W0 : World) (pb : Nat) (A1 A2 : Option Addr) (n c1 c2 d : Nat) (ve : Ves) (x y : Bool) (s : SuS) : Nat → Value → Prop
  | 0, v => v = .agg #[.pointer (some ⟨pb, 0, none⟩)]
  | 1, v => v = .slice A2 n c2
  | 2, v => v = .agg #[.int .i64 ve.cls, .int .i64 ve.ton, .bool ve.esc]
  | 3, v => v = .slice (some ⟨s.g1, s.o1, none⟩) n s.c1
  | 4, v => v = .int .i64 d
  | 5, v => v = .pointer (some ⟨s.g1, s.o1 + d, none⟩)
  | 6, v => v = .bool x
  | 7, v => v = .agg #[.pointer (some ⟨pb, 0, none⟩)]
  | 8, v => v = .slice A1 n c1
  | 9, v => v = .agg #[.int .i64 ve.cls, .int .i64 ve.ton, .bool ve.esc]
  | 10, v => v = .slice (some ⟨s.g2, s.o2, none⟩) n s.c2
  | 11, v => v = .int .i64 d
  | 12, v => v = .pointer (some ⟨s.g2, s.o2 + d, none⟩)
  | 13, v => v = .bool y
  | 14, v => v = .bool x
  | 15, v => v = .bool y
  | 16, v => v = .int .i64 0
  | _, _ => True
def SuW (W0 : World) (pb : Nat) (A1 A2 : Option Addr) (n c1 c2 d : Nat) (ve : Ves) (x y : Bool) (s : SuS) (l : Nat → Bool) (w : World) : Prop := Below W0.heap.size W0 w ∧ (l 3 = true → w.cell? ⟨s.g1, s.o1 + d, none⟩ = some (.bool x)) ∧ (l 10 = true → w.cell? ⟨s.g2, s.o2 + d, none⟩ = some (.bool y))

set_option maxRecDepth 100000 in
set_option maxHeartbeats 4000000 in
theorem Sure_any (As : Option Addr) (cs : Nat) (p : Pol) (A : Option Addr) (c : Nat) (l : List (Int × Int)) (v : Ves) (day : Int) (w : World) (hp : PolV w As cs p) (hr : Rd w 2 A l.length (spcs l)) (hm : l.length ≤ 9223372036854775807) :
    Calls Tryd.prog 11 #[.agg #[.slice As p.steps.length cs, .int .i64 p.hold, .int .i64 p.calm, .int .i64 p.notice, .int .i64 p.grace], .slice A l.length c, .agg #[.int .i64 v.cls, .int .i64 v.ton, .bool v.esc], .int .i64 day] w (SurePost w p l v day) := by
  obtain ⟨er, her⟩ : ∃ er, er = spnE p l := ⟨_, rfl⟩
  obtain ⟨W0, hW0⟩ : ∃ W0, W0 = (w.alloc (.cells #[.slice As p.steps.length cs, .int .i64 p.hold, .int .i64 p.calm, .int .i64 p.notice, .int .i64 p.grace] 51)).alloc (.cells #[.int .i64 v.cls, .int .i64 v.ton, .bool v.esc] 53) := ⟨_, rfl⟩
  obtain ⟨vb, hvb⟩ : ∃ vb, vb = w.heap.size + 1 := ⟨_, rfl⟩
  have b0 : Below w.heap.size w W0 := by rw [hW0]; exact ((Below.refl _ _).alloc (Nat.le_refl _) _).alloc (by simp) _
  have hv0 : W0.heap[vb]? = some (.cells #[.int .i64 v.cls, .int .i64 v.ton, .bool v.esc] 53 (0, 0)) := by
    rw [hW0, hvb]
    have := heap_alloc_new (w.alloc (.cells #[.slice As p.steps.length cs, .int .i64 p.hold, .int .i64 p.calm, .int .i64 p.notice, .int .i64 p.grace] 51)) (.cells #[.int .i64 v.cls, .int .i64 v.ton, .bool v.esc] 53)
    rwa [World.size_alloc] at this
  have hb0 : W0.heap[w.heap.size]? = some (.cells #[.slice As p.steps.length cs, .int .i64 p.hold, .int .i64 p.calm, .int .i64 p.notice, .int .i64 p.grace] 51 (0, 0)) := by rw [hW0]; exact heap_alloc' (heap_alloc_new _ _) _
  have t0 := (cell_of_heap hb0 0).trans rfl
  have t1 := (cell_of_heap hb0 1).trans rfl
  have t2 := (cell_of_heap hb0 2).trans rfl
  have t3 := (cell_of_heap hb0 3).trans rfl
  have t4 := (cell_of_heap hb0 4).trans rfl
  have hst : Calls Tryd.prog 39 #[.agg #[.slice As p.steps.length cs, .int .i64 p.hold, .int .i64 p.calm, .int .i64 p.notice, .int .i64 p.grace], .slice A l.length c] W0
      fun e w1 => ∃ pp A1 n1 c1 A2 n2 c2, e = .returned (.tuple #[.agg #[.pointer pp], .slice A1 n1 c1, .slice A2 n2 c2, .int .i64 er]) ∧ Below w.heap.size w w1 ∧ w1.heap[vb]? = some (.cells #[.int .i64 v.cls, .int .i64 v.ton, .bool v.esc] 53 (0, 0)) ∧
        (er = 0 → ∃ pb, pp = some ⟨pb, 0, none⟩ ∧ PolAt w1 pb p ∧ n1 = l.length ∧ n2 = l.length ∧ Rd w1 1 A1 l.length (ints (l.map (·.1))) ∧ Rd w1 1 A2 l.length (ints (l.map (·.2))) ∧ l.length ≤ 400) := by
    refine (bounds_any As cs p A c l W0 ⟨hp.1, hp.2.1, hp.2.2.below b0⟩ (hr.below b0) hm).mono ?_
    rintro e w1 ⟨pp, A1, n1, c1, A2, n2, c2, rfl, hB, h0⟩
    exact ⟨pp, A1, n1, c1, A2, n2, c2, by rw [her], b0.trans (hB.mono b0.size), (hB.block _ (heap_lt hv0)).trans hv0, fun h => h0 (her.symm.trans h)⟩
  have HP := Lib.hid (And.intro her (And.intro hst (And.intro hW0 hvb)))
  clear her hst b0 hr hv0 hb0
  go_enter Tryd.func11, Tryd.ntmps11
  go_upto_region 1 with fail
  rw [← hW0, ← hvb]
  clear hW0 hvb
  go_wp2_with fail
  refine HP.out.2.1.mono ?_
  rintro e w1 ⟨pp, A1, n1, c1, A2, n2, c2, rfl, hB, hv1, hpol⟩
  clear t0 t1 t2 t3 t4
  by_cases h0 : er = 0
  · subst h0
    obtain ⟨pb, rfl, hpa, rfl, rfl, r1, r2, hl4⟩ := hpol rfl
    have hck : checkS p = 0 := by
      have := HP.out.1.symm
      unfold spnE at this
      split at this
      · rename_i h; exact absurd this h
      · rename_i h; rw [start_nil] at h; simpa using h
    have HC := Lib.hid (check_ok hck)
    obtain ⟨W, hW⟩ : ∃ W, W = w1.alloc (.cells #[.pointer (some ⟨pb, 0, none⟩)] 101) := ⟨_, rfl⟩
    obtain ⟨rb, hrb⟩ : ∃ rb, rb = w1.heap.size := ⟨_, rfl⟩
    have bw : Below w1.heap.size w1 W := by rw [hW]; exact (Below.refl _ _).alloc (Nat.le_refl _) _
    have bW : Below w.heap.size w W := hB.trans (bw.mono hB.size)
    have fr : W.cell? ⟨rb, 0, none⟩ = some (.pointer (some ⟨pb, 0, none⟩)) := by rw [hW, hrb]; exact cell_new_one _ _ _
    have hv2 : W.heap[vb]? = some (.cells #[.int .i64 v.cls, .int .i64 v.ton, .bool v.esc] 53 (0, 0)) := (bw.block _ (heap_lt hv1)).trans hv1
    have HB := Lib.hid (And.intro bW (And.intro (hpa.below bw) (And.intro (r1.below bw) (And.intro (r2.below bw) hv2))))
    have zr := World.block_lt_of_cell? W _ fr
    have zv := heap_lt hv2
    have v0 := (cell_of_heap hv2 0).trans rfl
    have v1 := (cell_of_heap hv2 1).trans rfl
    have v2 := (cell_of_heap hv2 2).trans rfl
    clear hpol hpa r1 r2 bw bW hck hB hv1 hv2
    go_upto_region 2 with fail
    rw [← hW, ← hrb]
    clear hW hrb
    obtain ⟨vr, hvr⟩ : ∃ vr, vr = vright v := ⟨_, rfl⟩
    have hrt : ∀ wx, Calls Tryd.prog 40 #[.agg #[.int .i64 v.cls, .int .i64 v.ton, .bool v.esc]] wx fun e w' => e = .returned (.bool vr) ∧ Below wx.heap.size wx w' := fun wx => by rw [hvr]; exact right_any v wx
    have HV := Lib.hid (And.intro hvr hrt)
    clear hvr hrt
    cases vr
    · go_wp2_with (go_at_call 40; refine (HV.out.2 _).mono ?_; rintro e w2 ⟨rfl, b2⟩)
      go_ret3
      have he : sureE p l v day = 1 := sure_arg HP.out.1.symm HV.out.1.symm
      have hn := sure_not he (by decide)
      exact ⟨by rw [he, hn.1, hn.2]; rfl, HB.out.1.trans (b2.mono HB.out.1.size)⟩
    · obtain ⟨dr, hdr⟩ : ∃ dr, dr = within day 0 ((l.length : Int) - 1) := ⟨_, rfl⟩
      have hin : ∀ wx, Calls Tryd.prog 22 #[.int .i64 day, .int .i64 0, .int .i64 ((l.length : Int) - 1)] wx fun e w' => e = .returned (.bool dr) ∧ wx = w' := fun wx => by rw [hdr]; exact within_any day 0 _ wx
      have HD := Lib.hid (And.intro hdr hin)
      clear hdr hin
      cases dr
      · go_wp2_with (first | (go_at_call 40; refine (HV.out.2 _).mono ?_; rintro e w2 ⟨rfl, b2⟩) | (go_at_call 22; refine (HD.out.2 _).mono ?_; rintro e w3 ⟨rfl, rfl⟩))
        go_ret3
        have he : sureE p l v day = 6 := by rw [sure_day HP.out.1.symm HV.out.1.symm, ← HD.out.1]; rfl
        have hn := sure_not he (by decide)
        exact ⟨by rw [he, hn.1, hn.2]; rfl, HB.out.1.trans (b2.mono HB.out.1.size)⟩
      · have hlt : 0 ≤ day ∧ day < l.length := by have := HD.out.1; simp [within] at this; omega
        obtain ⟨d, rfl⟩ : ∃ d : Nat, day = d := ⟨day.toNat, by omega⟩
        have hdl : d < l.length := by omega
        have he : sureE p l v (d : Int) = 0 := by rw [sure_day HP.out.1.symm HV.out.1.symm, ← HD.out.1]; rfl
        obtain ⟨x, hx⟩ : ∃ x, x = (passesS p (l.map (·.2)) v).getD d false := ⟨_, rfl⟩
        obtain ⟨y, hy⟩ : ∃ y, y = (passesS p (l.map (·.1)) v).getD d false := ⟨_, rfl⟩
        have HX := Lib.hid (And.intro he (And.intro hx hy))
        have HPA : ∀ (xs : List Int) (Ax : Option Addr) (cx : Nat) (W' : World), Below W.heap.size W W' → xs.length = l.length → Rd W 1 Ax l.length (ints xs) → Calls Tryd.prog 41 #[.agg #[.pointer (some ⟨pb, 0, none⟩)], .slice Ax l.length cx, .agg #[.int .i64 v.cls, .int .i64 v.ton, .bool v.esc]] W'
            fun e w' => ∃ g o c, e = .returned (.slice (some ⟨g, o, none⟩) l.length c) ∧ w'.cell? ⟨g, o + d, none⟩ = some (.bool ((passesS p xs v).getD d false)) ∧ Below W'.heap.size W' w' := by
          intro xs Ax cx W' hW' hxl hx
          have hx2 : Rd W' 1 Ax xs.length (ints xs) := by rw [hxl]; exact hx.below hW'
          have := passes_any pb p Ax cx xs v W' (HB.out.2.1.below hW') ⟨HC.out.2.2.1, by have := HC.out.2.2.2.1; omega⟩ ⟨HC.out.2.2.2.2.1, by have := HC.out.2.2.2.2.2.1; omega⟩ ⟨HC.out.2.2.2.2.2.2.1, by have := HC.out.2.2.2.2.2.2.2.1; omega⟩ HC.out.1 (vright_cls HV.out.1.symm) hx2 (by omega)
          rw [hxl] at this
          refine this.mono ?_
          rintro e w' ⟨A3, c3, q3, rfl, o3, _, b3⟩
          have hxd : d < (passesS p xs v).length := by rw [passesS_length, hxl]; exact hdl
          rw [hxl] at o3
          obtain ⟨g, o, rfl, _, _, hc, _⟩ := o3.some_ (by omega)
          exact ⟨g, o, c3, by rw [hxl], hc d _ (bools_get hxd), b3⟩
        have HPAS := Lib.hid HPA
        have n1 : (0 : Int) ≤ (d : Int) := by omega
        have n2 : (d : Int) < (l.length : Int) := by omega
        clear he hx hy HPA hlt
        go_upto_region 8 with (first | (go_at_call 40; refine (HV.out.2 _).mono ?_; rintro e w2 ⟨rfl, b2⟩; have HB2 := Lib.hid b2; have v0 := (b2.cell (p := ⟨vb, 0, none⟩) zv).trans v0; have v1 := (b2.cell (p := ⟨vb, 1, none⟩) zv).trans v1; have v2 := (b2.cell (p := ⟨vb, 2, none⟩) zv).trans v2; have fr := (b2.cell (p := ⟨rb, 0, none⟩) zr).trans fr; have zs := b2.size; clear b2) | (go_at_call 22; refine (HD.out.2 _).mono ?_; rintro e w3 ⟨rfl, rfl⟩))
        have zv2 : vb < w2.heap.size := by omega
        have zr2 : rb < w2.heap.size := by omega
        refine wp_region_steps (σ := SuS) (by kernel_rfl) (by kernel_rfl) (fun sg jx vx _ => SuV w2 pb A1 A2 l.length c1 c2 d v x y sg jx vx) (fun sg ly wx => SuW w2 pb A1 A2 l.length c1 c2 d v x y sg ly wx) ⟨0, 0, 0, 0, 0, 0⟩ ?_ ?_ ?_
        · exact ⟨(Below.refl _ _).drew, fun h => by simp at h, fun h => by simp at h⟩
        · simp only [AllFrom, Nat.zero_add, Nat.reduceAdd]
          refine ⟨?_, ?_, ?_, ?_, ?_, ?_, ?_, ?_, ?_, ?_, ?_, ?_, ?_, ?_, ?_, ?_, ?_, trivial⟩
          · refine step_pure fun sg ly a wr hl hd hW hF => ?_
            have et11 := hF.old 11 (by kernel_rfl)
            simp [Act.eval] at et11
            have c8 := (hW.1.cell (p := ⟨rb, 0, none⟩) zr2).trans fr
            exact ⟨by simpa [SuW, upd] using hW, .agg #[.pointer (some ⟨pb, 0, none⟩)], by go_simp, rfl⟩
          · refine step_pure fun sg ly a wr hl hd hW hF => ?_
            have et13 := hF.old 13 (by kernel_rfl)
            simp [Act.eval] at et13
            exact ⟨by simpa [SuW, upd] using hW, .slice A2 l.length c2, by go_simp, rfl⟩
          · refine step_pure fun sg ly a wr hl hd hW hF => ?_
            have et6 := hF.old 6 (by kernel_rfl)
            simp [Act.eval] at et6
            have k0 := (hW.1.cell (p := ⟨vb, 0, none⟩) zv2).trans v0
            have k1 := (hW.1.cell (p := ⟨vb, 1, none⟩) zv2).trans v1
            have k2 := (hW.1.cell (p := ⟨vb, 2, none⟩) zv2).trans v2
            exact ⟨by simpa [SuW, upd] using hW, .agg #[.int .i64 v.cls, .int .i64 v.ton, .bool v.esc], by go_simp, rfl⟩
          · refine step_call fun sg ly a wr hl hd hW hF => ?_
            simp [Region.binds] at hd
            have et38 := hF.new 0 38 (by simp [hd]) rfl
            simp [SuV, Act.eval] at et38
            have et39 := hF.new 1 39 (by simp [hd]) rfl
            simp [SuV, Act.eval] at et39
            have et40 := hF.new 2 40 (by simp [hd]) rfl
            simp [SuV, Act.eval] at et40
            have nz := hF.notYet 3 5 hl (by kernel_rfl)
            refine ⟨41, #[.agg #[.pointer (some ⟨pb, 0, none⟩)], .slice A2 l.length c2, .agg #[.int .i64 v.cls, .int .i64 v.ton, .bool v.esc]], by go_simp, ?_⟩
            refine (HPAS.out (l.map (·.2)) A2 c2 wr (HB2.out.trans (hW.1.mono zs)) (by simp) HB.out.2.2.2.1).mono ?_
            rintro e w4 ⟨g, o, cx, rfl, cd, b1⟩
            refine ⟨_, { sg with g1 := g, o1 := o, c1 := cx }, rfl, ⟨hW.1.trans (b1.mono hW.1.size), fun _ => by rw [HX.out.2.1]; exact cd, fun h8 => (b1.cell (World.block_lt_of_cell? _ _ (hW.2.2 (by simpa [upd] using h8)))).trans (hW.2.2 (by simpa [upd] using h8))⟩, rfl, ?_⟩
            intro i u hi h
            have i3 : i ≠ 3 := by rintro rfl; rw [hl] at hi; cases hi
            have i5 : i ≠ 5 := by rintro rfl; rw [nz] at hi; cases hi
            unfold SuV at h ⊢
            split at h <;> first | exact h | exact absurd rfl i3 | exact absurd rfl i5
          · refine step_pure fun sg ly a wr hl hd hW hF => ?_
            have et3 := hF.old 3 (by kernel_rfl)
            simp [Act.eval] at et3
            exact ⟨by simpa [SuW, upd] using hW, .int .i64 d, by go_simp, rfl⟩
          · refine step_pure fun sg ly a wr hl hd hW hF => ?_
            simp [Region.binds] at hd
            have et41 := hF.new 3 41 (by simp [hd]) rfl
            simp [SuV, Act.eval] at et41
            have et42 := hF.new 4 42 (by simp [hd]) rfl
            simp [SuV, Act.eval] at et42
            exact ⟨by simpa [SuW, upd] using hW, .pointer (some ⟨sg.g1, sg.o1 + d, none⟩), by go_simp, rfl⟩
          · refine step_pure fun sg ly a wr hl hd hW hF => ?_
            simp [Region.binds] at hd
            have et43 := hF.new 5 43 (by simp [hd]) rfl
            simp [SuV, Act.eval] at et43
            have y3 := hF.before 3 5 (by simp [hd]) (by kernel_rfl)
            have cd := hW.2.1 y3
            exact ⟨by simpa [SuW, upd] using hW, .bool x, by go_simp, rfl⟩
          · refine step_pure fun sg ly a wr hl hd hW hF => ?_
            have et11 := hF.old 11 (by kernel_rfl)
            simp [Act.eval] at et11
            have c8 := (hW.1.cell (p := ⟨rb, 0, none⟩) zr2).trans fr
            exact ⟨by simpa [SuW, upd] using hW, .agg #[.pointer (some ⟨pb, 0, none⟩)], by go_simp, rfl⟩
          · refine step_pure fun sg ly a wr hl hd hW hF => ?_
            have et12 := hF.old 12 (by kernel_rfl)
            simp [Act.eval] at et12
            exact ⟨by simpa [SuW, upd] using hW, .slice A1 l.length c1, by go_simp, rfl⟩
          · refine step_pure fun sg ly a wr hl hd hW hF => ?_
            have et6 := hF.old 6 (by kernel_rfl)
            simp [Act.eval] at et6
            have k0 := (hW.1.cell (p := ⟨vb, 0, none⟩) zv2).trans v0
            have k1 := (hW.1.cell (p := ⟨vb, 1, none⟩) zv2).trans v1
            have k2 := (hW.1.cell (p := ⟨vb, 2, none⟩) zv2).trans v2
            exact ⟨by simpa [SuW, upd] using hW, .agg #[.int .i64 v.cls, .int .i64 v.ton, .bool v.esc], by go_simp, rfl⟩
          · refine step_call fun sg ly a wr hl hd hW hF => ?_
            simp [Region.binds] at hd
            have et45 := hF.new 7 45 (by simp [hd]) rfl
            simp [SuV, Act.eval] at et45
            have et46 := hF.new 8 46 (by simp [hd]) rfl
            simp [SuV, Act.eval] at et46
            have et47 := hF.new 9 47 (by simp [hd]) rfl
            simp [SuV, Act.eval] at et47
            have nz := hF.notYet 10 12 hl (by kernel_rfl)
            refine ⟨41, #[.agg #[.pointer (some ⟨pb, 0, none⟩)], .slice A1 l.length c1, .agg #[.int .i64 v.cls, .int .i64 v.ton, .bool v.esc]], by go_simp, ?_⟩
            refine (HPAS.out (l.map (·.1)) A1 c1 wr (HB2.out.trans (hW.1.mono zs)) (by simp) HB.out.2.2.1).mono ?_
            rintro e w4 ⟨g, o, cx, rfl, cd, b1⟩
            refine ⟨_, { sg with g2 := g, o2 := o, c2 := cx }, rfl, ⟨hW.1.trans (b1.mono hW.1.size), fun h8 => (b1.cell (World.block_lt_of_cell? _ _ (hW.2.1 (by simpa [upd] using h8)))).trans (hW.2.1 (by simpa [upd] using h8)), fun _ => by rw [HX.out.2.2]; exact cd⟩, rfl, ?_⟩
            intro i u hi h
            have i10 : i ≠ 10 := by rintro rfl; rw [hl] at hi; cases hi
            have i12 : i ≠ 12 := by rintro rfl; rw [nz] at hi; cases hi
            unfold SuV at h ⊢
            split at h <;> first | exact h | exact absurd rfl i10 | exact absurd rfl i12
          · refine step_pure fun sg ly a wr hl hd hW hF => ?_
            have et3 := hF.old 3 (by kernel_rfl)
            simp [Act.eval] at et3
            exact ⟨by simpa [SuW, upd] using hW, .int .i64 d, by go_simp, rfl⟩
          · refine step_pure fun sg ly a wr hl hd hW hF => ?_
            simp [Region.binds] at hd
            have et48 := hF.new 10 48 (by simp [hd]) rfl
            simp [SuV, Act.eval] at et48
            have et49 := hF.new 11 49 (by simp [hd]) rfl
            simp [SuV, Act.eval] at et49
            exact ⟨by simpa [SuW, upd] using hW, .pointer (some ⟨sg.g2, sg.o2 + d, none⟩), by go_simp, rfl⟩
          · refine step_pure fun sg ly a wr hl hd hW hF => ?_
            simp [Region.binds] at hd
            have et50 := hF.new 12 50 (by simp [hd]) rfl
            simp [SuV, Act.eval] at et50
            have y10 := hF.before 10 12 (by simp [hd]) (by kernel_rfl)
            have cd := hW.2.2 y10
            exact ⟨by simpa [SuW, upd] using hW, .bool y, by go_simp, rfl⟩
          · refine step_pure fun sg ly a wr hl hd hW hF => ?_
            simp [Region.binds] at hd
            have et44 := hF.new 6 44 (by simp [hd]) rfl
            simp [SuV, Act.eval] at et44
            exact ⟨by simpa [SuW, upd] using hW, .bool x, by go_simp, rfl⟩
          · refine step_pure fun sg ly a wr hl hd hW hF => ?_
            simp [Region.binds] at hd
            have et51 := hF.new 13 51 (by simp [hd]) rfl
            simp [SuV, Act.eval] at et51
            exact ⟨by simpa [SuW, upd] using hW, .bool y, by go_simp, rfl⟩
          · refine step_pure fun sg ly a wr hl hd hW hF => ?_
            exact ⟨by simpa [SuW, upd] using hW, .int .i64 0, by go_simp, rfl⟩
        intro sg a w3 hW hF
        have v8 := hF.new 14 8 rfl rfl
        have v9 := hF.new 15 9 rfl rfl
        have v10 := hF.new 16 10 rfl rfl
        simp only [SuV] at v8 v9 v10
        obtain ⟨f, hf, rfl⟩ := hF.lit
        have f8 := (hf 8).trans v8
        have f9 := (hf 9).trans v9
        have f10 := (hf 10).trans v10
        have b3 := Lib.hid hW.1
        simp only [List.filterMap, List.foldl, List.setIfInBounds_toArray, List.set_cons_succ, List.set_cons_zero]
        rw [f8, f9, f10]
        clear hf hF v10 v8 v9 f8 f9 f10 hW
        go_wp2_with fail
        go_ret3
        refine ⟨?_, HB.out.1.trans ((HB2.out.trans (b3.out.mono zs)).mono HB.out.1.size)⟩
        rw [sureB, perhB, HX.out.1, if_pos rfl, if_pos rfl, Int.toNat_natCast, ← HX.out.2.1, ← HX.out.2.2]; rfl
  · have hne : (er != 0) = true := by simp [h0]
    have HK := Lib.hid h0
    have HB := Lib.hid hB
    clear h0 hpol hB
    go_wp2_with fail
    go_ret3
    have he : sureE p l v day = er := by rw [sure_spn (by rw [← HP.out.1]; exact HK.out), HP.out.1]
    have hn := sure_not he HK.out
    exact ⟨by rw [he, hn.1, hn.2]; rfl, HB.out.alloc HB.out.size _⟩
end Go.Proofs.YtalcinepeofmcaaDoor
