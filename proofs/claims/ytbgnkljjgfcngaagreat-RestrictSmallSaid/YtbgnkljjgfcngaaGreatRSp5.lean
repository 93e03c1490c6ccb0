/- rules.force -/
import Derived.Test.YtbgnkljjgfcngaaGreatRSp4
import Derived.Test.YtbgnkljjgfcngaaGreatRSp1
import Derived.Test.YtbgnkljjgfcngaaGreatRSp3
import Derived.Deep.RegionHeld3
set_option linter.unusedVariables false
set_option linter.unusedSimpArgs false
namespace Go.Proofs.YtbgnkljjgfcngaaGreat
open Go Go.RowKit Sp

/-- a slice of numbers that is only read -/
def IntsAt (w : World) (A : Option Addr) (c : Nat) (l : List Int) : Prop := Rd w 1 A l.length (ints l) ∧ l.length ≤ c ∧ c ≤ 9223372036854775807

def forcePost (w : World) (p : Pol) (days : List Int) (e : Ending) (w' : World) : Prop :=
  ∃ A c, e = .returned (.slice A days.length c) ∧ IntsAt w' A c (forceS p days) ∧ Below w.heap.size w w'

/-- the same, and that the result is new -/
def forceNew (w : World) (p : Pol) (days : List Int) (e : Ending) (w' : World) : Prop :=
  ∃ A c, e = .returned (.slice A days.length c) ∧ IntsAt w' A c (forceS p days) ∧ Below w.heap.size w w' ∧ (0 < days.length → ∃ g off cur, A = some ⟨g, off, none⟩ ∧ w.heap.size ≤ g ∧ w'.heap[g]? = some (.cells cur 3 (0, 0)))

theorem ints_one (l : List Int) : ∀ u ∈ ints l, u.oneCell' = true := by simp [ints, Value.oneCell']
theorem ints_length (l : List Int) : (ints l).length = l.length := by simp [ints]
theorem ints_append (l m : List Int) : ints l ++ ints m = ints (l ++ m) := by simp [ints]

theorem rd_drop {w : World} {A : Option Addr} {N m : Nat} {xs : List Value} (h : Rd w 1 A (N + m) xs) : Rd w 1 (A.map fun x => x.add N) m (xs.drop N) := by
  refine ⟨by rw [List.length_drop, h.1]; omega, fun h0 => ?_⟩
  obtain ⟨b, off, rfl, hb, hc⟩ := h.2 (by omega)
  refine ⟨b, off + N, by by_cases hN : N = 0 <;> simp [Addr.add, hN], hb, fun j u hu => ?_⟩
  rw [List.getElem?_drop] at hu
  have := hc _ _ hu
  rwa [show off + (N + j) = off + N + j from by omega] at this

theorem force_end {w w3 : World} {p : Pol} {days : List Int} {A3 : Option Addr} {N c3 : Nat} {q : List Nat} {B : Option Addr} {d : Nat}
    (ho : OwnA w3 3 A3 (N + days.length) c3 (ints (slide ((N : Int) + 1) false (List.replicate N 0 ++ decidedS p days))) q) (hN : p.notice = (N : Int)) (hB : Below w.heap.size w w3) (hl : days.length ≤ 100000) (hq : ∀ g ∈ q, w.heap.size ≤ g)
    (hv : (c3 = N ∧ B = A3 ∧ d = 0) ∨ (B = A3.map (fun x => x.add N) ∧ d = c3 - N)) : forceNew w p days (.returned (.slice B days.length d)) w3 := by
  have hge := ho.ge
  have hf : forceS p days = (slide ((N : Int) + 1) false (List.replicate N 0 ++ decidedS p days)).drop N := by rw [forceS, hN]; simp
  have hfl := forceS_length p days
  have hrd := rd_drop ho.rd
  have hcm : c3 ≤ 9223372036854775807 := by
    rcases ho.2 with ⟨_, _, rfl, _⟩ | ⟨g, off, cur, _, _, _, _, h, _⟩
    · omega
    · exact h
  have hints : (ints (slide ((N : Int) + 1) false (List.replicate N 0 ++ decidedS p days))).drop N = ints (forceS p days) := by rw [hf]; simp [ints]
  rw [hints] at hrd
  rcases hv with ⟨rfl, rfl, rfl⟩ | ⟨rfl, rfl⟩
  · have h0 : days.length = 0 := by omega
    refine ⟨B, 0, rfl, ⟨?_, by omega, by omega⟩, hB, fun h => absurd h (by omega)⟩
    rw [hfl, h0]
    have : ints (forceS p days) = [] := List.eq_nil_of_length_eq_zero (by rw [ints_length, hfl, h0])
    rw [this]
    exact Rd.nil _ _ _
  · refine ⟨_, _, rfl, ⟨by rw [hfl]; exact hrd, by omega, by omega⟩, hB, fun h0 => ?_⟩
    rcases ho.2 with ⟨_, h1, _⟩ | ⟨g, off, cur, rfl, rfl, hh, _⟩
    · omega
    · refine ⟨g, off + N, cur, ?_, hq g (by simp), hh⟩
      by_cases hN0 : N = 0 <;> simp [Addr.add, hN0]

set_option maxRecDepth 100000 in
set_option maxHeartbeats 2000000 in
theorem force_new (pb : Nat) (p : Pol) (A : Option Addr) (c : Nat) (days : List Int) (w : World) (hp : PolAt w pb p) (hh : 1 ≤ p.hold ∧ p.hold ≤ 1000) (hca : 1 ≤ p.calm ∧ p.calm ≤ 1000) (hno : 0 ≤ p.notice ∧ p.notice ≤ 900) (hr : Rd w 1 A days.length (ints days)) (hl : days.length ≤ 100000) :
    Calls Tryz.prog 66 #[.agg #[.pointer (some ⟨pb, 0, none⟩)], .slice A days.length c] w (forceNew w p days) := by
  obtain ⟨i0, hi, hz0, hz1, hz2⟩ := info_parts info_int
  obtain ⟨N, hN⟩ : ∃ N : Nat, p.notice = (N : Int) := ⟨p.notice.toNat, by omega⟩
  have hN9 : N ≤ 900 := by omega
  have hmk := fun w => run_make_ints (P := Tryz.prog) 22 i0 Tryz.underlying22 hi hz0 hz1 hz2 N (by omega) w
  have hp0 := hp
  obtain ⟨As, cs, hpb, _⟩ := hp0
  have hlt := heap_lt hpb
  have c3 := cell_of_heap hpb 3
  simp [hN] at c3
  have HP := Lib.hid (And.intro hp (And.intro hh (And.intro hca (And.intro hr (And.intro hN hpb)))))
  clear hp hh hca hr hno hN hpb
  go_enter Tryz.func66, Tryz.ntmps66
  go_upto_region 2 with fail
  obtain ⟨bx, hbx⟩ : ∃ bx, bx = w.heap.size := ⟨_, rfl⟩
  obtain ⟨W, hW⟩ : ∃ W, W = (w.alloc (.cells #[.pointer (some ⟨pb, 0, none⟩)] 132)).alloc (.cells #[.int .i64 ((N : Int) + 1), .int .i64 0, .bool false, .slice none 0 0, .slice none 0 0] 179) := ⟨_, rfl⟩
  have hwW : Win W (bx + 1) ((N : Int) + 1) 0 false [] [bx + 1] := by
    have := win_new (w.alloc (.cells #[.pointer (some ⟨pb, 0, none⟩)] 132)) ((N : Int) + 1) false
    rw [hW, hbx]
    simpa using this
  have bW : Below w.heap.size w W := by rw [hW]; exact ((Below.refl _ _).alloc (Nat.le_refl _) _).alloc (by simp) _
  have sW : W.heap.size = bx + 2 := by rw [hW, hbx]; simp
  have fb : W.cell? ⟨bx, 0, none⟩ = some (.pointer (some ⟨pb, 0, none⟩)) := by
    rw [hW, hbx, World.cell?_alloc_lt _ _ _ (by simp)]
    simp [World.cell?_alloc_new]
  have f3 : W.cell? ⟨pb, 3, none⟩ = some (.int .i64 (N : Int)) := (bW.cell (p := ⟨pb, 3, none⟩) hlt).trans c3
  have hpbx : pb < bx := by rw [hbx]; exact hlt
  have hbs := hbx
  rw [← hW, ← hbx]
  have HW := Lib.hid (And.intro hwW (And.intro bW (And.intro sW hbs)))
  have hsz : bx + 2 ≤ W.heap.size := by omega
  clear hW hbx hbs hwW bW sW c3 hlt
  go_region_held3 (fun w' => w'.cell? ⟨bx, 0, none⟩ = some (.pointer (some ⟨pb, 0, none⟩)) ∧ w'.cell? ⟨pb, 3, none⟩ = some (.int .i64 (N : Int))) (first | exact ⟨fb3, f33⟩ | exact ⟨fb, f3⟩ | exact ⟨fb1, f31⟩ | exact ⟨fb2, f32⟩ | exact ⟨(World.cell?_alloc_lt W _ ⟨bx, 0, none⟩ (by show bx < W.heap.size; omega)).trans fb, (World.cell?_alloc_lt W _ ⟨pb, 3, none⟩ (by show pb < W.heap.size; omega)).trans f3⟩ | exact ⟨(World.cell?_alloc_lt w1 _ ⟨bx, 0, none⟩ (by show bx < w1.heap.size; omega)).trans fb1, (World.cell?_alloc_lt w1 _ ⟨pb, 3, none⟩ (by show pb < w1.heap.size; omega)).trans f31⟩)
    (first
      | (go_at_call 75
         refine (decided_any pb p A c days W.drew (HP.out.1.below HW.out.2.1.drew) HP.out.2.1 HP.out.2.2.1 (HP.out.2.2.2.1.below HW.out.2.1.drew) hl).mono ?_
         rintro e w1 ⟨A1, c1, q1, rfl, o1, n1, b1⟩
         have fb1 : w1.cell? ⟨bx, 0, none⟩ = some (.pointer (some ⟨pb, 0, none⟩)) := (b1.cell (p := ⟨bx, 0, none⟩) (by show bx < W.heap.size; omega)).trans fb
         have f31 : w1.cell? ⟨pb, 3, none⟩ = some (.int .i64 (N : Int)) := (b1.cell (p := ⟨pb, 3, none⟩) (by show pb < W.heap.size; omega)).trans f3
         have hs1 : bx + 2 ≤ w1.heap.size := Nat.le_trans hsz b1.size
         have H1 := Lib.hid (And.intro o1 (And.intro n1 b1))
         clear o1 n1 b1)
      | (go_at_call 75
         refine (decided_any pb p A c days (W.alloc (.cells (noughts N) 3)).drew (HP.out.1.below (HW.out.2.1.alloc HW.out.2.1.size _).drew) HP.out.2.1 HP.out.2.2.1 (HP.out.2.2.2.1.below (HW.out.2.1.alloc HW.out.2.1.size _).drew) hl).mono ?_
         rintro e w1 ⟨A1, c1, q1, rfl, o1, n1, b1⟩
         have fb1 : w1.cell? ⟨bx, 0, none⟩ = some (.pointer (some ⟨pb, 0, none⟩)) := (b1.cell (p := ⟨bx, 0, none⟩) (by simp; omega)).trans ((World.cell?_alloc_lt W _ ⟨bx, 0, none⟩ (by show bx < W.heap.size; omega)).trans fb)
         have f31 : w1.cell? ⟨pb, 3, none⟩ = some (.int .i64 (N : Int)) := (b1.cell (p := ⟨pb, 3, none⟩) (by simp; omega)).trans ((World.cell?_alloc_lt W _ ⟨pb, 3, none⟩ (by show pb < W.heap.size; omega)).trans f3)
         have hs1 : bx + 2 ≤ w1.heap.size := Nat.le_trans (by simp; omega) b1.size
         have KM : Keep [] (W.alloc (.cells (noughts N) 3)) w1 := (Keep.refl [] _).drew.trans (Keep.of_below (S := []) b1) (by simp)
         have HM := Lib.hid KM
         have H1 := Lib.hid (And.intro o1 (And.intro n1 b1))
         clear o1 n1 b1 KM)
      | (refine step_append_As rfl (.tmp 20) (.tmp 23) 22 rfl i0 _ 8 Tryz.underlying22 hi hz0 hz1 hz2 rfl (A := some ⟨W.heap.size, 0, none⟩) (n := N) (c := N) (B := A1) (m := days.length) (d := c1) (xs := List.replicate N (.int .i64 0)) (fp := [W.heap.size]) (ys := ints (decidedS p days)) (by simp [Act.eval]) (by simp [Act.eval]) ((OwnA.made W 3 N (by omega)).keepS HM.out (by simp)) H1.out.1.rd (ints_one _) (by omega) (by omega) ?_
         intro A2 c2 w2 fp2 h1 h2 h3
         have K2 : Keep [] W w2 := (((Keep.refl [] W).alloc _).trans HM.out (by simp)).trans h3 (fun y hy => .inr (by rw [List.mem_singleton.1 hy]; exact Nat.le_refl _))
         have fb2 := K2.cell fb (by simp)
         have f32 := K2.cell f3 (by simp)
         have g2 : ∀ g ∈ fp2, bx + 2 ≤ g := fun g hg => by
           rcases h2 g hg with h4 | h4
           · rw [List.mem_singleton.1 h4]; exact hsz
           · omega
         have H2 := Lib.hid (And.intro h1 (And.intro K2 g2))
         clear h1 h2 h3 K2 g2)
      | (refine step_append_As rfl (.tmp 20) (.tmp 23) 22 rfl i0 _ 8 Tryz.underlying22 hi hz0 hz1 hz2 rfl (A := some ⟨w1.heap.size, 0, none⟩) (n := N) (c := N) (B := A1) (m := days.length) (d := c1) (xs := List.replicate N (.int .i64 0)) (fp := [w1.heap.size]) (ys := ints (decidedS p days)) (by simp [Act.eval]) (by simp [Act.eval]) (OwnA.made w1 3 N (by omega)) (H1.out.1.rd.below ((Below.refl _ _).alloc (Nat.le_refl _) _)) (ints_one _) (by omega) (by omega) ?_
         intro A2 c2 w2 fp2 h1 h2 h3
         have K2 : Keep [] W w2 := (((Keep.refl [] W).drew.trans (Keep.of_below (S := []) H1.out.2.2) (by simp)).alloc _).trans h3 (fun y hy => .inr (by rw [List.mem_singleton.1 hy]; exact H1.out.2.2.size))
         have fb2 := K2.cell fb (by simp)
         have f32 := K2.cell f3 (by simp)
         have g2 : ∀ g ∈ fp2, bx + 2 ≤ g := fun g hg => by
           rcases h2 g hg with h4 | h4
           · rw [List.mem_singleton.1 h4]; exact hs1
           · simp at h4; omega
         have H2 := Lib.hid (And.intro h1 (And.intro K2 g2))
         clear h1 h2 h3 K2 g2)
      | (go_at_call 107
         have hL : (List.replicate N (0 : Int) ++ decidedS p days).length = N + days.length := by simp [decidedS_length]
         have hc := each_any (bx + 1) ((N : Int) + 1) false A2 c2 (List.replicate N (0 : Int) ++ decidedS p days) w2 (HW.out.1.keepS H2.out.2.1 (by simp)) (by omega) (by omega) (by have := H2.out.1.rd; rw [hL]; simpa [ints] using this) (fun h0 b off e => by have := H2.out.2.2 b (H2.out.1.mem_ (by rw [← hL]; exact h0) e); omega) (by rw [hL]; omega)
         rw [hL] at hc
         refine hc.mono ?_
         have hSL : (slide ((N : Int) + 1) false (List.replicate N (0 : Int) ++ decidedS p days)).length = N + days.length := by rw [slide_length, hL]
         rintro e w3 ⟨A3, c3, q3, he, o3, n3, k3⟩
         rw [hSL] at he o3
         subst he
         have K3 : Keep [bx + 1] W w3 := (H2.out.2.1.mono (S' := [bx + 1]) (by simp)).trans k3 (by simp)
         have fb3 := K3.cell fb (by simp)
         have f33 := K3.cell f3 (by simp; omega)
         have hq3 : ∀ g ∈ q3, w.heap.size ≤ g := fun g hg => Nat.le_trans (Nat.le_trans HW.out.2.1.size H2.out.2.1.size) (n3 g hg)
         have H3 := Lib.hid (And.intro o3 (And.intro K3 hq3))
         clear o3 n3 k3 K3 hq3 hc hL hSL))
  all_goals go_wp2_with fail
  all_goals go_ret
  all_goals (have hB : Below w.heap.size w w3 := HW.out.2.1.trans (H3.out.2.1.below (by have := HW.out.2.1.size; omega) (by simp; have := HW.out.2.2.2; omega)))
  all_goals first | exact force_end H3.out.1 HP.out.2.2.2.2.1 hB hl H3.out.2.2 (.inr ⟨rfl, rfl⟩) | exact force_end H3.out.1 HP.out.2.2.2.2.1 hB hl H3.out.2.2 (.inl ⟨by first | assumption | (symm; assumption), rfl, rfl⟩)

theorem force_any (pb : Nat) (p : Pol) (A : Option Addr) (c : Nat) (days : List Int) (w : World) (hp : PolAt w pb p) (hh : 1 ≤ p.hold ∧ p.hold ≤ 1000) (hca : 1 ≤ p.calm ∧ p.calm ≤ 1000) (hno : 0 ≤ p.notice ∧ p.notice ≤ 900) (hr : Rd w 1 A days.length (ints days)) (hl : days.length ≤ 100000) :
    Calls Tryz.prog 66 #[.agg #[.pointer (some ⟨pb, 0, none⟩)], .slice A days.length c] w (forcePost w p days) :=
  (force_new pb p A c days w hp hh hca hno hr hl).mono fun _ _ ⟨A, c, h1, h2, h3, _⟩ => ⟨A, c, h1, h2, h3⟩
end Go.Proofs.YtbgnkljjgfcngaaGreat
/- rules.passes; slices.Index of a bool -/
namespace Go.Proofs.YtbgnkljjgfcngaaGreat
open Go Go.RowKit Sp

theorem bools_length (l : List Bool) : (bools l).length = l.length := by simp [bools]

theorem info_bool : (Tryz.prog.info? 4).map (fun i => (i.zero, i.size, i.bytes)) = some (some (.bool false), 1, 1) := by kernel_rfl

def passesPost (w : World) (p : Pol) (days : List Int) (v : Ves) (e : Ending) (w' : World) : Prop :=
  ∃ A c q, e = .returned (.slice A days.length c) ∧ OwnA w' 4 A days.length c (bools (passesS p days v)) q ∧ (∀ g ∈ q, w.heap.size ≤ g) ∧ Below w.heap.size w w'

/-- the step s of the policy in block pb -/
theorem PolAt.step {w : World} {pb : Nat} {p : Pol} (h : PolAt w pb p) {i : Nat} (hi : i < p.steps.length) : ∃ b off c, w.cell? ⟨pb, 0, none⟩ = some (.slice (some ⟨b, off, none⟩) p.steps.length c) ∧ b < w.heap.size ∧ p.steps.length ≤ 9223372036854775807 ∧
    w.cell? ⟨b, off + i * 4, none⟩ = some (.int .i64 p.steps[i].cls) ∧ w.cell? ⟨b, off + i * 4 + 1, none⟩ = some (.int .i64 p.steps[i].ton) ∧ w.cell? ⟨b, off + i * 4 + 2, none⟩ = some (.int .i64 p.steps[i].up) ∧ w.cell? ⟨b, off + i * 4 + 3, none⟩ = some (.int .i64 p.steps[i].dn) := by
  obtain ⟨A, c, hh, h1, h2, h3⟩ := h
  obtain ⟨b, off, rfl, hb, hc⟩ := h3.2 (by omega)
  obtain ⟨s0, s1, s2, s3⟩ := stcs_get hi
  have := cell_of_heap hh 0
  unfold maxLen at h2
  exact ⟨b, off, c, this, hb, by omega, hc _ _ s0, hc _ _ s1, hc _ _ s2, hc _ _ s3⟩

set_option maxRecDepth 100000 in
set_option maxHeartbeats 2000000 in
theorem passes_any (pb : Nat) (p : Pol) (A : Option Addr) (c : Nat) (days : List Int) (v : Ves) (w : World) (hp : PolAt w pb p) (hh : 1 ≤ p.hold ∧ p.hold ≤ 1000) (hca : 1 ≤ p.calm ∧ p.calm ≤ 1000) (hno : 0 ≤ p.notice ∧ p.notice ≤ 900) (hs : p.steps ≠ [])
    (hv : -1000000000 ≤ v.cls ∧ v.cls ≤ 1000000000) (hr : Rd w 1 A days.length (ints days)) (hl : days.length ≤ 100000) :
    Calls Tryz.prog 70 #[.agg #[.pointer (some ⟨pb, 0, none⟩)], .slice A days.length c, .agg #[.int .i64 v.cls, .int .i64 v.ton, .bool v.esc]] w (passesPost w p days v) := by
  obtain ⟨i0, hi, hz0, hz1, hz2⟩ := info_parts info_bool
  have HP := Lib.hid (And.intro hp (And.intro hh (And.intro hca (And.intro hno (And.intro hs (And.intro hv hr))))))
  clear hp hh hca hno hs hv hr
  go_enter Tryz.func70, Tryz.ntmps70
  go_wp2_with fail
  refine (force_any pb p A c days _ (HP.out.1.below ?_) HP.out.2.1 HP.out.2.2.1 HP.out.2.2.2.1 (HP.out.2.2.2.2.2.2.below ?_) hl).mono ?_
  · exact ((Below.refl _ _).alloc (Nat.le_refl _) _).alloc (by simp) _
  · exact ((Below.refl _ _).alloc (Nat.le_refl _) _).alloc (by simp) _
  rintro e w1 ⟨Af, cf, rfl, hf, hB⟩
  simp only [World.size_alloc] at hB
  have b1 : Below w.heap.size w w1 := (((Below.refl w.heap.size w).alloc (Nat.le_refl _) _).alloc (by simp) _).trans (hB.mono (by omega))
  have fr : w1.cell? ⟨w.heap.size, 0, none⟩ = some (.pointer (some ⟨pb, 0, none⟩)) := by
    rw [hB.cell (p := ⟨w.heap.size, 0, none⟩) (by simp; omega), World.cell?_alloc_lt _ _ _ (by simp)]
    simp [World.cell?_alloc_new]
  have fv : ∀ j u, (#[Value.int .i64 v.cls, .int .i64 v.ton, .bool v.esc] : Array Value)[j]? = some u → w1.cell? ⟨w.heap.size + 1, j, none⟩ = some u := by
    intro j u hu
    rw [hB.cell (p := ⟨w.heap.size + 1, j, none⟩) (by simp)]
    rw [← hu]
    have := World.cell?_alloc_new (w.alloc (.cells #[.pointer (some ⟨pb, 0, none⟩)] 132)) #[Value.int .i64 v.cls, .int .i64 v.ton, .bool v.esc] 29 j
    rw [World.size_alloc] at this
    exact this
  have fv0 := fv 0 _ rfl
  have fv1 := fv 1 _ rfl
  have fv2 := fv 2 _ rfl
  obtain ⟨bx, hbx⟩ : ∃ bx, bx = w.heap.size := ⟨_, rfl⟩
  rw [← hbx] at fr fv0 fv1 fv2 ⊢
  have HB := Lib.hid (And.intro b1 hbx)
  have HF := Lib.hid hf
  clear fv hB b1 hbx hf
  obtain ⟨F, hF⟩ : ∃ F, F = forceS p days := ⟨_, rfl⟩
  have hFl : F.length = days.length := by rw [hF, forceS_length]
  have hFr : ∀ y ∈ F, IsStep p y := by rw [hF]; exact forceS_range HP.out.2.2.2.2.1 HP.out.2.2.2.1.1 days
  have HFF := Lib.hid (And.intro hF (And.intro hFl hFr))
  have hrd : Rd w1 1 Af days.length (ints F) := by rw [hF]; have := HF.out.1; rwa [forceS_length] at this
  clear hF hFl hFr
  go_wp2_with fail
  go_loopw [7, 14] (fun o i wr => ∃ (k : Nat) (Ao : Option Addr) (co : Nat) (q : List Nat), k ≤ days.length ∧ i = .int .i64 k ∧ o = .slice Ao k co ∧ OwnA wr 4 Ao k co (bools ((passesS p days v).take k)) q ∧ (∀ g ∈ q, w1.heap.size ≤ g) ∧ Keep [] w1 wr)
    (fun _ i _ => days.length - (intOf i).toNat)
  case atStart => exact ⟨0, none, 0, [], Nat.zero_le _, rfl, rfl, OwnA.nil _ _, by simp, Keep.refl _ _⟩
  case round =>
    obtain ⟨k, Ao, co, q, hk, rfl, rfl, hown, hq, hK⟩ := hrel
    by_cases hlt : k < days.length
    · obtain ⟨bf, of, rfl, hbf, hcf⟩ := hrd.2 (by omega)
      have hkF : k < F.length := by rw [HFF.out.2.1]; exact hlt
      obtain ⟨j, hj⟩ : ∃ j : Nat, F.getD k 0 = (j : Int) := by
        have := getD_all HFF.out.2.2 (isStep_zero HP.out.2.2.2.2.1) k
        exact ⟨(F.getD k 0).toNat, by have := this.1; omega⟩
      have hjl : j < p.steps.length := by
        have := getD_all HFF.out.2.2 (isStep_zero HP.out.2.2.2.2.1) k
        rw [hj] at this
        have := this.2; omega
      have cF := hK.cell (hcf k (.int .i64 (F.getD k 0)) (ints_get hkF)) (by simp)
      rw [hj] at cF
      have PW : PolAt w1 pb p := HP.out.1.below HB.out.1
      obtain ⟨bs, os, cs, p0, hbs, hsl, p1, p2, p3, p4⟩ := PW.step hjl
      obtain ⟨st, hst⟩ : ∃ st, st = p.steps[j] := ⟨_, rfl⟩
      rw [← hst] at p1 p2 p3 p4
      have hb0 : bx < w1.heap.size := World.block_lt_of_cell? w1 _ fr
      have KC : ∀ {b o : Nat} {u : Value}, w1.cell? ⟨b, o, none⟩ = some u → ∀ w', Keep q wr w' → w'.cell? ⟨b, o, none⟩ = some u := fun h w' hk =>
        hk.cell (hK.cell h (by simp)) (fun hm => by have := hq _ hm; have := World.block_lt_of_cell? w1 _ h; simp at this; omega)
      have r0' := KC fr
      have v0' := KC fv0
      have v1' := KC fv1
      have v2' := KC fv2
      have p0' := KC p0
      have p1' := KC p1
      have p2' := KC p2
      have p3' := KC p3
      have p4' := KC p4
      have HI := Lib.hid (And.intro hown (And.intro hq (And.intro hK (And.intro hj (And.intro hst hkF)))))
      have hjl' : (j : Int) < (p.steps.length : Int) := by omega
      clear hown hq hK hj hst hkF KC hcf PW p0 p1 p2 p3 p4
      go_upto_region 5 with fail
      go_region_held3 (fun w' => Keep q wr w') (first | exact (Keep.refl _ _).drew | assumption | exact K2q.alloc _)
        (first
          | (go_at_call 109
             refine (fulfils_any v st _ HP.out.2.2.2.2.2.1).mono ?_
             rintro e w2 ⟨rfl, hB2⟩
             have K2 : Keep [] wr w2 := (Keep.refl [] wr).drew.trans (Keep.of_below (S := []) hB2) (by simp)
             have K2q : Keep q wr w2 := K2.mono (by simp)
             clear hB2)
          | (refine step_append_A rfl (.tmp 18) (.tmp 29) 138 rfl i0 _ 1 Tryz.underlying138 hi hz0 hz1 hz2 rfl (A := Ao) (n := k) (c := co) (xs := bools ((passesS p days v).take k)) (fp := q) (by simp [Act.eval]) _ (by simp [Act.eval]) (.bool (fulfils v st)) ((HI.out.1.keepS K2 (by simp)).alloc _) (cell_new_one _ _ _) rfl (by omega) (by omega) ?_
             intro g off' c' w3 h1 h2 h3 h4
             have HQ := Lib.hid (And.intro h1 (And.intro h2 h4))
             have K3 : Keep q wr w3 := ((K2.mono (S' := q) (by simp)).alloc _).trans h4 (fun y hy => .inl hy)
             clear h1 h2 h3 h4))
      go_wp2_with fail
      go_roundw
      case rel =>
        obtain ⟨h1, h2, h4⟩ := HQ.out
        obtain ⟨hown, hq, hK, hj, hst, hkF⟩ := HI.out
        have hw1 := hK.size
        have hw2 := K2.size
        have ht : (passesS p days v).take (k + 1) = (passesS p days v).take k ++ [fulfils v st] := by
          have hkp : k < (passesS p days v).length := by rw [passesS_length]; exact hlt
          rw [List.take_succ_eq_append_getElem hkp]
          congr 2
          rw [List.getD_eq_getElem?_getD, List.getElem?_eq_getElem hkF] at hj
          simp only [Option.getD_some] at hj
          simp only [passesS, ← HFF.out.1, List.getElem_map, hj, Int.toNat_natCast]
          rw [hst, List.getD_eq_getElem?_getD, List.getElem?_eq_getElem hjl]
          rfl
        refine ⟨k + 1, some ⟨g, off', none⟩, c', [g], by omega, by go_num, rfl, by rw [ht]; simpa [bools] using h1, ?_, ((hK.trans K2 (by simp)).alloc _).trans h4 (fun y hy => .inr (hq y hy))⟩
        intro y hy
        rw [List.mem_singleton.1 hy]
        rcases h2 with h2 | h2
        · exact hq _ h2
        · simp at h2; omega
      case measure => simp [intOf]; omega
    · obtain rfl : k = days.length := by omega
      go_wp2_with fail
      go_ret
      have hb1 := HB.out.1
      have hbs := hb1.size
      rw [List.take_of_length_le (by rw [passesS_length]; exact Nat.le_refl _)] at hown
      exact ⟨Ao, co, q, rfl, hown, fun y hy => by have := hq y hy; omega, hb1.trans (hK.below (by omega) (by simp))⟩

/-- slices.Index of a bool -/
def idxB (x : Bool) (l : List Bool) : Int := match l.findIdx? (· == x) with | some i => (i : Int) | none => -1

end Go.Proofs.YtbgnkljjgfcngaaGreat
/- restrict.start -/
namespace Go.Proofs.YtbgnkljjgfcngaaGreat
open Go Go.RowKit Sp

theorem bad_any (n : Int) (w : World) :
    Calls Tryz.prog 106 #[.int .i64 n] w fun e w' => e = .returned (.bool (!within n 0 2000)) ∧ w = w' := by
  go_enter Tryz.func106, Tryz.ntmps106
  go_wp2_with (go_at_call 69; refine (within_any _ _ _ _).mono ?_; rintro e w' ⟨rfl, rfl⟩)
  go_ret
  exact ⟨rfl, rfl⟩

def anyBad (l : List Int) : Bool := l.any fun n => !within n 0 2000
def badN (l : List Int) (k : Nat) : Bool := anyBad (l.take k)
def IdxPost (l : List Int) (w : World) (e : Ending) (w' : World) : Prop := ∃ r : Int, e = .returned (.int .i64 r) ∧ decide (0 ≤ r) = anyBad l ∧ w = w'

theorem badN_succ {l : List Int} {k : Nat} (hk : k < l.length) : badN l (k + 1) = (badN l k || !within (l.getD k 0) 0 2000) := by
  rw [badN, badN, List.take_succ_eq_append_getElem hk, List.getD_eq_getElem?_getD, List.getElem?_eq_getElem hk]
  simp only [anyBad, List.any_append, List.any_cons, List.any_nil, Bool.or_false, Option.getD_some]
theorem badN_true {l : List Int} {k : Nat} (h : badN l k = true) : anyBad l = true := by
  rw [badN, anyBad, List.any_eq_true] at h
  obtain ⟨x, hx, h⟩ := h
  rw [anyBad, List.any_eq_true]
  exact ⟨x, List.mem_of_mem_take hx, h⟩

set_option maxHeartbeats 1000000 in
theorem idx_any (A : Option Addr) (c : Nat) (l : List Int) (w : World) (hr : Rd w 1 A l.length (ints l)) (hm : l.length ≤ 9223372036854775807) :
    Calls Tryz.prog 119 #[.slice A l.length c, .func (.func 106) #[] #[]] w (IdxPost l w) := by
  go_enter Tryz.func119, Tryz.ntmps119
  go_wp2_with fail
  go_loopg [8] (l.length) (fun g i wr => ∃ k : Nat, g + k = l.length ∧ i = .int .i64 k ∧ badN l k = false ∧ w = wr)
  case atStart => exact ⟨0, rfl, rfl, by simp [badN, anyBad], rfl⟩
  case round =>
    obtain ⟨k, hk, rfl, hb, rfl⟩ := hrel
    have HB := Lib.hid hb
    clear hb
    by_cases hlt : k < l.length
    · obtain ⟨b, off, rfl, hbb, hc⟩ := hr.2 (by omega)
      have c0 := hc k _ (ints_get hlt)
      obtain ⟨x, hx⟩ : ∃ x, x = l.getD k 0 := ⟨_, rfl⟩
      rw [← hx] at c0
      have HX := Lib.hid hx
      clear hx hc hr
      cases hz : within x 0 2000
      · have H := bad_any x w
        rw [hz] at H
        have HH := Lib.hid H
        have hbt : anyBad l = true := badN_true (k := k + 1) (by rw [badN_succ hlt, ← HX.out, hz]; simp)
        have HT := Lib.hid hbt
        clear H hz hbt
        go_wp2_with (go_at_call 106; refine HH.out.mono ?_; rintro e w' ⟨rfl, rfl⟩)
        go_ret
        exact ⟨k, rfl, by rw [HT.out]; simp, rfl⟩
      · have H := bad_any x w
        rw [hz] at H
        have HH := Lib.hid H
        have hbt : badN l (k + 1) = false := by rw [badN_succ hlt, ← HX.out, hz, HB.out]; rfl
        have HT := Lib.hid hbt
        clear H hz hbt
        go_wp2_with (go_at_call 106; refine HH.out.mono ?_; rintro e w' ⟨rfl, rfl⟩)
        go_roundg (gk - 1)
        case measure => omega
        case rel => exact ⟨k + 1, by omega, by go_num, HT.out, rfl⟩
    · obtain rfl : k = l.length := by omega
      go_wp2_with fail
      go_ret
      exact ⟨-1, rfl, by have := HB.out; rw [badN, List.take_length] at this; rw [this]; simp, rfl⟩

theorem contains_any (A : Option Addr) (c : Nat) (l : List Int) (w : World) (hr : Rd w 1 A l.length (ints l)) (hm : l.length ≤ 9223372036854775807) :
    Calls Tryz.prog 100 #[.slice A l.length c, .func (.func 106) #[] #[]] w fun e w' => e = .returned (.bool (anyBad l)) ∧ w = w' := by
  go_enter Tryz.func100, Tryz.ntmps100
  go_wp2_with (go_at_call 119; refine (idx_any A c l w hr hm).mono ?_; rintro e w' ⟨r, rfl, hd, rfl⟩; have HD := Lib.hid hd; clear hd)
  go_ret
  exact ⟨by rw [← HD.out]; rfl, rfl⟩

/-- what start leaves -/
def startPost (w : World) (p : Pol) (days : List Int) (e : Ending) (w' : World) : Prop :=
  ∃ pp, e = .returned (.tuple #[.agg #[.pointer pp], .int .i64 (startS p days)]) ∧ Below w.heap.size w w' ∧ (startS p days = 0 → ∃ pb, pp = some ⟨pb, 0, none⟩ ∧ PolAt w' pb p) ∧ (startS p days ≠ 0 → pp = none)

set_option maxRecDepth 100000 in
set_option maxHeartbeats 1000000 in
theorem start8_any (As : Option Addr) (cs : Nat) (p : Pol) (A : Option Addr) (c : Nat) (days : List Int) (w : World) (hp : PolV w As cs p) (hr : Rd w 1 A days.length (ints days)) (hm : days.length ≤ 9223372036854775807) :
    Calls Tryz.prog 65 #[.agg #[.slice As p.steps.length cs, .int .i64 p.hold, .int .i64 p.calm, .int .i64 p.notice, .int .i64 p.grace], .slice A days.length c] w (startPost w p days) := by
  obtain ⟨bx, hbx⟩ : ∃ bx, bx = w.heap.size := ⟨_, rfl⟩
  obtain ⟨ck, hck⟩ : ∃ ck, ck = checkS p := ⟨_, rfl⟩
  have HP := Lib.hid (And.intro hp (And.intro hr (And.intro hck hbx)))
  clear hp hr hck
  have b0 : ∀ o o', Below w.heap.size w ((w.alloc o).alloc o') := fun o o' => ((Below.refl _ _).alloc (Nat.le_refl _) _).alloc (by simp) _
  have hchk : Calls Tryz.prog 21 #[.agg #[.slice As p.steps.length cs, .int .i64 p.hold, .int .i64 p.calm, .int .i64 p.notice, .int .i64 p.grace]]
      ((w.alloc (.cells #[.slice As p.steps.length cs, .int .i64 p.hold, .int .i64 p.calm, .int .i64 p.notice, .int .i64 p.grace] 25)).alloc (.cells #[.pointer none] 132))
      fun e w1 => e = .returned (.int .i64 ck) ∧ w1.cell? ⟨w.heap.size + 1, 0, none⟩ = some (.pointer none) ∧ w1.frozen? ⟨w.heap.size + 1, 0, none⟩ = false ∧ w.heap.size + 1 < w1.heap.size ∧
        Below (w.heap.size + 2) ((w.alloc (.cells #[.slice As p.steps.length cs, .int .i64 p.hold, .int .i64 p.calm, .int .i64 p.notice, .int .i64 p.grace] 25)).alloc (.cells #[.pointer none] 132)) w1 := by
    have hc := check_any As cs p ((w.alloc (.cells #[.slice As p.steps.length cs, .int .i64 p.hold, .int .i64 p.calm, .int .i64 p.notice, .int .i64 p.grace] 25)).alloc (.cells #[.pointer none] 132)) ⟨HP.out.1.1, HP.out.1.2.1, HP.out.1.2.2.below (b0 _ _)⟩
    rw [← HP.out.2.2.1] at hc
    refine hc.mono ?_
    rintro e w1 ⟨rfl, hB⟩
    have hs := hB.size
    simp only [World.size_alloc] at hs
    refine ⟨rfl, ?_, ?_, by omega, by simpa using hB⟩
    · rw [hB.cell (p := ⟨w.heap.size + 1, 0, none⟩) (by simp)]
      have := World.cell?_alloc_new (w.alloc (.cells #[.slice As p.steps.length cs, .int .i64 p.hold, .int .i64 p.calm, .int .i64 p.notice, .int .i64 p.grace] 25)) #[.pointer none] 132 0
      rw [World.size_alloc] at this
      exact this
    · rw [hB.frozen (p := ⟨w.heap.size + 1, 0, none⟩) (by simp)]
      have := frozen_of_heap (heap_alloc_new (w.alloc (.cells #[.slice As p.steps.length cs, .int .i64 p.hold, .int .i64 p.calm, .int .i64 p.notice, .int .i64 p.grace] 25)) (.cells #[.pointer none] 132)) 0
      rw [World.size_alloc] at this
      exact this
  by_cases h1 : ck = 0
  · subst h1
    have hne : ((0 : Int) != 0) = false := rfl
    have hck0 : checkS p = 0 := HP.out.2.2.1.symm
    by_cases h4 : (400 : Int) < (days.length : Int)
    · have hst : startS p days = 2 := by unfold startS; rw [hck0, if_neg (by simp), if_pos h4]
      have HS := Lib.hid hst
      clear hst hck0
      go_enter Tryz.func65, Tryz.ntmps65
      go_wp2_with fail
      refine hchk.mono ?_
      rintro e w1 ⟨rfl, f1, f2, f3, hB⟩
      have HB := Lib.hid hB
      clear hB hchk
      go_wp2_with fail
      refine bodyPost_ret (v := .tuple #[.agg #[.pointer none], .int .i64 2]) (by simp [results, Tryz.results65, go_sem, f1]) rfl ?_
      refine ⟨none, by rw [HS.out], ?_, fun h => absurd (HS.out.symm.trans h) (by decide), fun _ => rfl⟩
      exact ((b0 _ _).trans (HB.out.mono (by omega))).setCell (by simp) _
    · have h4' : (days.length : Int) ≤ 400 := by omega
      obtain ⟨ab, hab⟩ : ∃ ab, ab = anyBad days := ⟨_, rfl⟩
      have HA := Lib.hid hab
      clear hab h4
      cases ab
      · have hst : startS p days = 0 := by unfold startS; rw [hck0, if_neg (by simp), if_neg (by omega), if_neg (by show ¬ anyBad days = true; rw [← HA.out]; simp)]
        have HS := Lib.hid hst
        clear hst hck0
        go_enter Tryz.func65, Tryz.ntmps65
        go_wp2_with fail
        refine hchk.mono ?_
        rintro e w1 ⟨rfl, f1, f2, f3, hB⟩
        have HB := Lib.hid hB
        clear hB hchk
        have hct : ∀ wx, Below w.heap.size w wx → Calls Tryz.prog 100 #[.slice A days.length c, .func (.func 106) #[] #[]] wx fun e w' => e = .returned (.bool false) ∧ wx = w' := fun wx hb => by
          have := contains_any A c days wx (HP.out.2.1.below hb) hm
          rwa [← HA.out] at this
        go_wp2_with (go_at_call 100; refine (hct _ ((b0 _ _).trans (HB.out.mono (by omega)))).mono ?_; clear hct; rintro e w' ⟨rfl, rfl⟩)
        refine bodyPost_ret (v := .tuple #[.agg #[.pointer (some ⟨w.heap.size, 0, none⟩)], .int .i64 0]) (by simp [results, Tryz.results65, go_sem, f1]) rfl ?_
        refine ⟨some ⟨w.heap.size, 0, none⟩, by rw [HS.out], ?_, fun _ => ⟨_, rfl, ?_⟩, fun h => absurd HS.out h⟩
        · exact ((b0 _ _).trans (HB.out.mono (by omega))).setCell (by simp) _
        · refine ⟨As, cs, ?_, HP.out.1.1, HP.out.1.2.1, HP.out.1.2.2.below (((b0 _ _).trans (HB.out.mono (by omega))).setCell (by simp) _)⟩
          rw [Below.heap_setCell _ _ _ _ (by simp), HB.out.block _ (by omega), Below.heap_alloc _ _ _ (by simp)]
          exact heap_alloc_new w _
      · have hst : startS p days = 6 := by unfold startS; rw [hck0, if_neg (by simp), if_neg (by omega), if_pos (by show anyBad days = true; rw [← HA.out])]
        have HS := Lib.hid hst
        clear hst hck0
        go_enter Tryz.func65, Tryz.ntmps65
        go_wp2_with fail
        refine hchk.mono ?_
        rintro e w1 ⟨rfl, f1, f2, f3, hB⟩
        have HB := Lib.hid hB
        clear hB hchk
        have hct : ∀ wx, Below w.heap.size w wx → Calls Tryz.prog 100 #[.slice A days.length c, .func (.func 106) #[] #[]] wx fun e w' => e = .returned (.bool true) ∧ wx = w' := fun wx hb => by
          have := contains_any A c days wx (HP.out.2.1.below hb) hm
          rwa [← HA.out] at this
        go_wp2_with (go_at_call 100; refine (hct _ ((b0 _ _).trans (HB.out.mono (by omega)))).mono ?_; clear hct; rintro e w' ⟨rfl, rfl⟩)
        refine bodyPost_ret (v := .tuple #[.agg #[.pointer none], .int .i64 6]) (by simp [results, Tryz.results65, go_sem, f1]) rfl ?_
        refine ⟨none, by rw [HS.out], ?_, fun h => absurd (HS.out.symm.trans h) (by decide), fun _ => rfl⟩
        exact ((b0 _ _).trans (HB.out.mono (by omega))).setCell (by simp) _
  · have hne : (ck != 0) = true := by simp [h1]
    have hst : startS p days = ck := by unfold startS; rw [← HP.out.2.2.1, if_pos h1]
    have HS := Lib.hid (And.intro hst h1)
    clear h1 hst
    go_enter Tryz.func65, Tryz.ntmps65
    go_wp2_with fail
    refine hchk.mono ?_
    rintro e w1 ⟨rfl, f1, f2, f3, hB⟩
    have HB := Lib.hid hB
    clear hB hchk
    go_wp2_with fail
    refine bodyPost_ret (v := .tuple #[.agg #[.pointer none], .int .i64 ck]) (by simp [results, Tryz.results65, go_sem, f1]) rfl ?_
    refine ⟨none, by rw [HS.out.1], ?_, fun h => absurd (HS.out.1.symm.trans h) HS.out.2, fun _ => rfl⟩
    exact ((b0 _ _).trans (HB.out.mono (by omega))).setCell (by simp) _
end Go.Proofs.YtbgnkljjgfcngaaGreat
/- capacity of an own slice -/
namespace Go.Proofs.YtbgnkljjgfcngaaGreat
open Go Go.RowKit Sp

theorem OwnA.cap {w : World} {e : TypeId} {A : Option Addr} {n c : Nat} {xs : List Value} {fp : List Nat} (h : OwnA w e A n c xs fp) : c ≤ 9223372036854775807 := by
  rcases h.2 with ⟨_, _, rfl, _⟩ | ⟨g, off, cur, _, _, _, _, h, _⟩
  · omega
  · exact h

end Go.Proofs.YtbgnkljjgfcngaaGreat
