/- rules.force -/
import Derived.Test.YtfmhlnfcbbpfeaaDecided
import Derived.Test.YtfmhlnfcbbpfeaaAppend
namespace Go.Proofs.Ytfmhlnfcbbpfeaa
open Go Go.RowKit Sp

/-- a slice of numbers that is only read -/
def IntsAt (w : World) (A : Option Addr) (c : Nat) (l : List Int) : Prop := Rd w 1 A l.length (ints l) ∧ l.length ≤ c ∧ c ≤ 9223372036854775807

def forcePost (w : World) (p : Pol) (days : List Int) (e : Ending) (w' : World) : Prop :=
  ∃ A c, e = .returned (.slice A days.length c) ∧ IntsAt w' A c (forceS p days) ∧ Below w.heap.size w w'

/-- the same, and that the result is new -/
def forceNew (w : World) (p : Pol) (days : List Int) (e : Ending) (w' : World) : Prop :=
  ∃ A c, e = .returned (.slice A days.length c) ∧ IntsAt w' A c (forceS p days) ∧ Below w.heap.size w w' ∧ (0 < days.length → ∃ g off cur, A = some ⟨g, off, none⟩ ∧ w.heap.size ≤ g ∧ w'.heap[g]? = some (.cells cur 3 (0, 0)))

theorem ints_one (l : List Int) : ∀ u ∈ ints l, u.oneCell' = true := by simp [ints, Value.oneCell']
theorem ints_length (l : List Int) : (ints l).length = l.length := by simp [ints]
theorem ints_append (l m : List Int) : ints l ++ ints m = ints (l ++ m) := by simp [ints]

theorem rd_drop {w : World} {A : Option Addr} {N m : Nat} {xs : List Value} (h : Rd w 1 A (N + m) xs) : Rd w 1 (A.map fun x => x.add N) m (xs.drop N) := by
  refine ⟨by rw [List.length_drop, h.1]; omega, fun h0 => ?_⟩
  obtain ⟨b, off, rfl, hb, hc⟩ := h.2 (by omega)
  refine ⟨b, off + N, by by_cases hN : N = 0 <;> simp [Addr.add, hN], hb, fun j u hu => ?_⟩
  rw [List.getElem?_drop] at hu
  have := hc _ _ hu
  rwa [show off + (N + j) = off + N + j from by omega] at this

theorem force_end {w w3 : World} {p : Pol} {days : List Int} {A3 : Option Addr} {N c3 : Nat} {q : List Nat} {B : Option Addr} {d : Nat}
    (ho : OwnA w3 3 A3 (N + days.length) c3 (ints (slide ((N : Int) + 1) false (List.replicate N 0 ++ decidedS p days))) q) (hN : p.notice = (N : Int)) (hB : Below w.heap.size w w3) (hl : days.length ≤ 100000) (hq : ∀ g ∈ q, w.heap.size ≤ g)
    (hv : (c3 = N ∧ B = A3 ∧ d = 0) ∨ (B = A3.map (fun x => x.add N) ∧ d = c3 - N)) : forceNew w p days (.returned (.slice B days.length d)) w3 := by
  have hge := ho.ge
  have hf : forceS p days = (slide ((N : Int) + 1) false (List.replicate N 0 ++ decidedS p days)).drop N := by rw [forceS, hN]; simp
  have hfl := forceS_length p days
  have hrd := rd_drop ho.rd
  have hcm : c3 ≤ 9223372036854775807 := by
    rcases ho.2 with ⟨_, _, rfl, _⟩ | ⟨g, off, cur, _, _, _, _, h, _⟩
    · omega
    · exact h
  have hints : (ints (slide ((N : Int) + 1) false (List.replicate N 0 ++ decidedS p days))).drop N = ints (forceS p days) := by rw [hf]; simp [ints]
  rw [hints] at hrd
  rcases hv with ⟨rfl, rfl, rfl⟩ | ⟨rfl, rfl⟩
  · have h0 : days.length = 0 := by omega
    refine ⟨B, 0, rfl, ⟨?_, by omega, by omega⟩, hB, fun h => absurd h (by omega)⟩
    rw [hfl, h0]
    have : ints (forceS p days) = [] := List.eq_nil_of_length_eq_zero (by rw [ints_length, hfl, h0])
    rw [this]
    exact Rd.nil _ _ _
  · refine ⟨_, _, rfl, ⟨by rw [hfl]; exact hrd, by omega, by omega⟩, hB, fun h0 => ?_⟩
    rcases ho.2 with ⟨_, h1, _⟩ | ⟨g, off, cur, rfl, rfl, hh, _⟩
    · omega
    · refine ⟨g, off + N, cur, ?_, hq g (by simp), hh⟩
      by_cases hN0 : N = 0 <;> simp [Addr.add, hN0]

set_option maxRecDepth 100000 in
set_option maxHeartbeats 2000000 in
theorem force_new (pb : Nat) (p : Pol) (A : Option Addr) (c : Nat) (days : List Int) (w : World) (hp : PolAt w pb p) (hh : 1 ≤ p.hold ∧ p.hold ≤ 1000) (hca : 1 ≤ p.calm ∧ p.calm ≤ 1000) (hno : 0 ≤ p.notice ∧ p.notice ≤ 900) (hr : Rd w 1 A days.length (ints days)) (hl : days.length ≤ 100000) :
    Calls Try.prog 86 #[.agg #[.pointer (some ⟨pb, 0, none⟩)], .slice A days.length c] w (forceNew w p days) := by
  obtain ⟨i0, hi, hz0, hz1, hz2⟩ := info_parts info_int
  obtain ⟨N, hN⟩ : ∃ N : Nat, p.notice = (N : Int) := ⟨p.notice.toNat, by omega⟩
  have hN9 : N ≤ 900 := by omega
  have hmk := fun w => run_make_ints (P := Try.prog) 27 i0 Try.underlying27 hi hz0 hz1 hz2 N (by omega) w
  have hp0 := hp
  obtain ⟨As, cs, hpb, _⟩ := hp0
  have hlt := heap_lt hpb
  have c3 := cell_of_heap hpb 3
  simp [hN] at c3
  have HP := Lib.hid (And.intro hp (And.intro hh (And.intro hca (And.intro hr (And.intro hN hpb)))))
  clear hp hh hca hr hno hN hpb
  go_enter Try.func86, Try.ntmps86
  go_upto_region 2 with fail
  obtain ⟨bx, hbx⟩ : ∃ bx, bx = w.heap.size := ⟨_, rfl⟩
  obtain ⟨W, hW⟩ : ∃ W, W = (w.alloc (.cells #[.pointer (some ⟨pb, 0, none⟩)] 143)).alloc (.cells #[.int .i64 ((N : Int) + 1), .int .i64 0, .bool false, .slice none 0 0, .slice none 0 0] 197) := ⟨_, rfl⟩
  have hwW : Win W (bx + 1) ((N : Int) + 1) 0 false [] [bx + 1] := by
    have := win_new (w.alloc (.cells #[.pointer (some ⟨pb, 0, none⟩)] 143)) ((N : Int) + 1) false
    rw [hW, hbx]
    simpa using this
  have bW : Below w.heap.size w W := by rw [hW]; exact ((Below.refl _ _).alloc (Nat.le_refl _) _).alloc (by simp) _
  have sW : W.heap.size = bx + 2 := by rw [hW, hbx]; simp
  have fb : W.cell? ⟨bx, 0, none⟩ = some (.pointer (some ⟨pb, 0, none⟩)) := by
    rw [hW, hbx, World.cell?_alloc_lt _ _ _ (by simp)]
    simp [World.cell?_alloc_new]
  have f3 : W.cell? ⟨pb, 3, none⟩ = some (.int .i64 (N : Int)) := (bW.cell (p := ⟨pb, 3, none⟩) hlt).trans c3
  have hpbx : pb < bx := by rw [hbx]; exact hlt
  have hbs := hbx
  rw [← hW, ← hbx]
  have HW := Lib.hid (And.intro hwW (And.intro bW (And.intro sW hbs)))
  have hsz : bx + 2 ≤ W.heap.size := by omega
  clear hW hbx hbs hwW bW sW c3 hlt
  go_region_held3 (fun w' => w'.cell? ⟨bx, 0, none⟩ = some (.pointer (some ⟨pb, 0, none⟩)) ∧ w'.cell? ⟨pb, 3, none⟩ = some (.int .i64 (N : Int))) (first | exact ⟨fb3, f33⟩ | exact ⟨fb, f3⟩ | exact ⟨fb1, f31⟩ | exact ⟨fb2, f32⟩ | exact ⟨(World.cell?_alloc_lt W _ ⟨bx, 0, none⟩ (by show bx < W.heap.size; omega)).trans fb, (World.cell?_alloc_lt W _ ⟨pb, 3, none⟩ (by show pb < W.heap.size; omega)).trans f3⟩ | exact ⟨(World.cell?_alloc_lt w1 _ ⟨bx, 0, none⟩ (by show bx < w1.heap.size; omega)).trans fb1, (World.cell?_alloc_lt w1 _ ⟨pb, 3, none⟩ (by show pb < w1.heap.size; omega)).trans f31⟩)
    (first
      | (go_at_call 83
         refine (decided_any pb p A c days W.drew (HP.out.1.below HW.out.2.1.drew) HP.out.2.1 HP.out.2.2.1 (HP.out.2.2.2.1.below HW.out.2.1.drew) hl).mono ?_
         rintro e w1 ⟨A1, c1, q1, rfl, o1, n1, b1⟩
         have fb1 : w1.cell? ⟨bx, 0, none⟩ = some (.pointer (some ⟨pb, 0, none⟩)) := (b1.cell (p := ⟨bx, 0, none⟩) (by show bx < W.heap.size; omega)).trans fb
         have f31 : w1.cell? ⟨pb, 3, none⟩ = some (.int .i64 (N : Int)) := (b1.cell (p := ⟨pb, 3, none⟩) (by show pb < W.heap.size; omega)).trans f3
         have hs1 : bx + 2 ≤ w1.heap.size := Nat.le_trans hsz b1.size
         have H1 := Lib.hid (And.intro o1 (And.intro n1 b1))
         clear o1 n1 b1)
      | (go_at_call 83
         refine (decided_any pb p A c days (W.alloc (.cells (noughts N) 3)).drew (HP.out.1.below (HW.out.2.1.alloc HW.out.2.1.size _).drew) HP.out.2.1 HP.out.2.2.1 (HP.out.2.2.2.1.below (HW.out.2.1.alloc HW.out.2.1.size _).drew) hl).mono ?_
         rintro e w1 ⟨A1, c1, q1, rfl, o1, n1, b1⟩
         have fb1 : w1.cell? ⟨bx, 0, none⟩ = some (.pointer (some ⟨pb, 0, none⟩)) := (b1.cell (p := ⟨bx, 0, none⟩) (by simp; omega)).trans ((World.cell?_alloc_lt W _ ⟨bx, 0, none⟩ (by show bx < W.heap.size; omega)).trans fb)
         have f31 : w1.cell? ⟨pb, 3, none⟩ = some (.int .i64 (N : Int)) := (b1.cell (p := ⟨pb, 3, none⟩) (by simp; omega)).trans ((World.cell?_alloc_lt W _ ⟨pb, 3, none⟩ (by show pb < W.heap.size; omega)).trans f3)
         have hs1 : bx + 2 ≤ w1.heap.size := Nat.le_trans (by simp; omega) b1.size
         have KM : Keep [] (W.alloc (.cells (noughts N) 3)) w1 := (Keep.refl [] _).drew.trans (Keep.of_below (S := []) b1) (by simp)
         have HM := Lib.hid KM
         have H1 := Lib.hid (And.intro o1 (And.intro n1 b1))
         clear o1 n1 b1 KM)
      | (refine step_append_As rfl (.tmp 20) (.tmp 23) 27 rfl i0 _ 8 Try.underlying27 hi hz0 hz1 hz2 rfl (A := some ⟨W.heap.size, 0, none⟩) (n := N) (c := N) (B := A1) (m := days.length) (d := c1) (xs := List.replicate N (.int .i64 0)) (fp := [W.heap.size]) (ys := ints (decidedS p days)) (by simp [Act.eval]) (by simp [Act.eval]) ((OwnA.made W 3 N (by omega)).keepS HM.out (by simp)) H1.out.1.rd (ints_one _) (by omega) (by omega) ?_
         intro A2 c2 w2 fp2 h1 h2 h3
         have K2 : Keep [] W w2 := (((Keep.refl [] W).alloc _).trans HM.out (by simp)).trans h3 (fun y hy => .inr (by rw [List.mem_singleton.1 hy]; exact Nat.le_refl _))
         have fb2 := K2.cell fb (by simp)
         have f32 := K2.cell f3 (by simp)
         have g2 : ∀ g ∈ fp2, bx + 2 ≤ g := fun g hg => by
           rcases h2 g hg with h4 | h4
           · rw [List.mem_singleton.1 h4]; exact hsz
           · omega
         have H2 := Lib.hid (And.intro h1 (And.intro K2 g2))
         clear h1 h2 h3 K2 g2)
      | (refine step_append_As rfl (.tmp 20) (.tmp 23) 27 rfl i0 _ 8 Try.underlying27 hi hz0 hz1 hz2 rfl (A := some ⟨w1.heap.size, 0, none⟩) (n := N) (c := N) (B := A1) (m := days.length) (d := c1) (xs := List.replicate N (.int .i64 0)) (fp := [w1.heap.size]) (ys := ints (decidedS p days)) (by simp [Act.eval]) (by simp [Act.eval]) (OwnA.made w1 3 N (by omega)) (H1.out.1.rd.below ((Below.refl _ _).alloc (Nat.le_refl _) _)) (ints_one _) (by omega) (by omega) ?_
         intro A2 c2 w2 fp2 h1 h2 h3
         have K2 : Keep [] W w2 := (((Keep.refl [] W).drew.trans (Keep.of_below (S := []) H1.out.2.2) (by simp)).alloc _).trans h3 (fun y hy => .inr (by rw [List.mem_singleton.1 hy]; exact H1.out.2.2.size))
         have fb2 := K2.cell fb (by simp)
         have f32 := K2.cell f3 (by simp)
         have g2 : ∀ g ∈ fp2, bx + 2 ≤ g := fun g hg => by
           rcases h2 g hg with h4 | h4
           · rw [List.mem_singleton.1 h4]; exact hs1
           · simp at h4; omega
         have H2 := Lib.hid (And.intro h1 (And.intro K2 g2))
         clear h1 h2 h3 K2 g2)
      | (go_at_call 129
         have hL : (List.replicate N (0 : Int) ++ decidedS p days).length = N + days.length := by simp [decidedS_length]
         have hc := each_any (bx + 1) ((N : Int) + 1) false A2 c2 (List.replicate N (0 : Int) ++ decidedS p days) w2 (HW.out.1.keepS H2.out.2.1 (by simp)) (by omega) (by omega) (by have := H2.out.1.rd; rw [hL]; simpa [ints] using this) (fun h0 b off e => by have := H2.out.2.2 b (H2.out.1.mem_ (by rw [← hL]; exact h0) e); omega) (by rw [hL]; omega)
         rw [hL] at hc
         refine hc.mono ?_
         have hSL : (slide ((N : Int) + 1) false (List.replicate N (0 : Int) ++ decidedS p days)).length = N + days.length := by rw [slide_length, hL]
         rintro e w3 ⟨A3, c3, q3, he, o3, n3, k3⟩
         rw [hSL] at he o3
         subst he
         have K3 : Keep [bx + 1] W w3 := (H2.out.2.1.mono (S' := [bx + 1]) (by simp)).trans k3 (by simp)
         have fb3 := K3.cell fb (by simp)
         have f33 := K3.cell f3 (by simp; omega)
         have hq3 : ∀ g ∈ q3, w.heap.size ≤ g := fun g hg => Nat.le_trans (Nat.le_trans HW.out.2.1.size H2.out.2.1.size) (n3 g hg)
         have H3 := Lib.hid (And.intro o3 (And.intro K3 hq3))
         clear o3 n3 k3 K3 hq3 hc hL hSL))
  all_goals go_wp2_with fail
  all_goals go_ret
  all_goals (have hB : Below w.heap.size w w3 := HW.out.2.1.trans (H3.out.2.1.below (by have := HW.out.2.1.size; omega) (by simp; have := HW.out.2.2.2; omega)))
  all_goals first | exact force_end H3.out.1 HP.out.2.2.2.2.1 hB hl H3.out.2.2 (.inr ⟨rfl, rfl⟩) | exact force_end H3.out.1 HP.out.2.2.2.2.1 hB hl H3.out.2.2 (.inl ⟨by first | assumption | (symm; assumption), rfl, rfl⟩)

theorem force_any (pb : Nat) (p : Pol) (A : Option Addr) (c : Nat) (days : List Int) (w : World) (hp : PolAt w pb p) (hh : 1 ≤ p.hold ∧ p.hold ≤ 1000) (hca : 1 ≤ p.calm ∧ p.calm ≤ 1000) (hno : 0 ≤ p.notice ∧ p.notice ≤ 900) (hr : Rd w 1 A days.length (ints days)) (hl : days.length ≤ 100000) :
    Calls Try.prog 86 #[.agg #[.pointer (some ⟨pb, 0, none⟩)], .slice A days.length c] w (forcePost w p days) :=
  (force_new pb p A c days w hp hh hca hno hr hl).mono fun _ _ ⟨A, c, h1, h2, h3, _⟩ => ⟨A, c, h1, h2, h3⟩
end Go.Proofs.Ytfmhlnfcbbpfeaa
