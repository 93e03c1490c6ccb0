/- polynyalaw09.awake -/
import Derived.Test.YthmldeningpjbaaPBp32
import Derived.Test.YthmldeningpjbaaPBp31
import Derived.Test.YthmldeningpjbaaPBp26
import Derived.Test.YthmldeningpjbaaPBp17
import Derived.Test.YthmldeningpjbaaPBp3
import Derived.Test.YthmldeningpjbaaPBp20
import Derived.Test.YthmldeningpjbaaPBp22
import Derived.Test.YthmldeningpjbaaPBp8
import Derived.Test.YthmldeningpjbaaPBp6
set_option linter.unusedVariables false
set_option linter.unusedSimpArgs false
namespace Go.Proofs.Ythmldeningpjbaa
open Go Go.RowKit Sp Pt
set_option linter.unusedVariables false
set_option linter.unusedSimpArgs false
/-- awake's variables p and l, and what they lead to -/
structure AwS (D b2 b4 b6 b7 pb lb : Nat) (x y : Value) (w : World) : Prop where
  M : ExM D b2 b4 b6 b7 w
  hp : w.heap[pb]? = some (.cells #[.slice (some ⟨b2, 0, none⟩) 1 1, x, .int .i64 3] 26 (0, 0))
  hl : w.heap[lb]? = some (.cells #[.int .i64 24, .slice (some ⟨b6, 0, none⟩) 2 2, y] 31 (0, 0))
theorem AwS.keep0 {D b2 b4 b6 b7 pb lb : Nat} {x y : Value} {w w' : World} (h : AwS D b2 b4 b6 b7 pb lb x y w) (hk : Keep [] w w') : AwS D b2 b4 b6 b7 pb lb x y w' :=
  ⟨h.M.keep hk (by simp), (hk.block _ (heap_lt h.hp) (by simp)).trans h.hp, (hk.block _ (heap_lt h.hl) (by simp)).trans h.hl⟩
theorem AwS.cells {D b2 b4 b6 b7 pb lb : Nat} {x y : Value} {w : World} (h : AwS D b2 b4 b6 b7 pb lb x y w) :
    w.cell? ⟨pb, 0, none⟩ = some (.slice (some ⟨b2, 0, none⟩) 1 1) ∧ w.cell? ⟨pb, 1, none⟩ = some x ∧ w.cell? ⟨pb, 2, none⟩ = some (.int .i64 3) ∧ w.cell? ⟨lb, 0, none⟩ = some (.int .i64 24) ∧ w.cell? ⟨lb, 1, none⟩ = some (.slice (some ⟨b6, 0, none⟩) 2 2) ∧ w.cell? ⟨lb, 2, none⟩ = some y ∧ pb < w.heap.size ∧ lb < w.heap.size :=
  ⟨(cell_of_heap h.hp 0).trans rfl, (cell_of_heap h.hp 1).trans rfl, (cell_of_heap h.hp 2).trans rfl, (cell_of_heap h.hl 0).trans rfl, (cell_of_heap h.hl 1).trans rfl, (cell_of_heap h.hl 2).trans rfl, heap_lt h.hp, heap_lt h.hl⟩
theorem rd_litP (w : World) (size n : Nat) (cs : List Value) (t : TypeId) (h : cs.length = n * size) : Rd (w.alloc (.cells cs.toArray t)) size (some ⟨w.heap.size, 0, none⟩) n cs :=
  ⟨h, fun _ => ⟨_, 0, rfl, by simp, fun j u hu => by rw [Nat.zero_add, World.cell?_alloc_new]; simpa using hu⟩⟩
set_option maxRecDepth 100000 in
set_option maxHeartbeats 4000000 in
theorem awakeP_any (w : World) : Calls Try.prog 15 #[] w fun e w' => e = .returned (.bool true) ∧ Below w.heap.size w w' := by
  go_enter Try.func15, Try.ntmps15
  go_upto_region 2 with (go_at_call 69; refine (exa_ex w).mono ?_; rintro e w1 ⟨b2, b3, b4, b6, b7, rfl, M1, hb4, hpa, hord, bw⟩; have H1 := Lib.hid (And.intro M1 bw); have HP := Lib.hid (And.intro hb4 hpa); clear M1 bw hb4 hpa)
  obtain ⟨W2, hW2⟩ : ∃ W, W = (w1.alloc (.cells #[.slice (some ⟨b2, 0, none⟩) 1 1, .slice (some ⟨b4, 0, none⟩) 1 1, .int .i64 3] 26)).alloc (.cells #[.int .i64 24, .slice (some ⟨b6, 0, none⟩) 2 2, .slice (some ⟨b7, 0, none⟩) 1 1] 31) := ⟨_, rfl⟩
  obtain ⟨D, hD⟩ : ∃ D, D = w1.heap.size := ⟨_, rfl⟩
  obtain ⟨lb, hlb⟩ : ∃ b, b = w1.heap.size + 1 := ⟨_, rfl⟩
  obtain ⟨pb, hpb⟩ : ∃ b, b = w1.heap.size := ⟨_, rfl⟩
  have k2 : Keep [] w1 W2 := by rw [hW2]; exact ((Keep.refl _ _).alloc _).alloc _
  have S2 : AwS D b2 b4 b6 b7 pb lb (.slice (some ⟨b4, 0, none⟩) 1 1) (.slice (some ⟨b7, 0, none⟩) 1 1) W2 := by
    refine ⟨by rw [hD]; exact H1.out.1.keep k2 (by simp), by rw [hW2, hpb]; exact heap_alloc' (heap_alloc_new _ _) _, ?_⟩
    rw [hW2, hlb]
    have := heap_alloc_new (w1.alloc (.cells #[.slice (some ⟨b2, 0, none⟩) 1 1, .slice (some ⟨b4, 0, none⟩) 1 1, .int .i64 3] 26)) (.cells #[.int .i64 24, .slice (some ⟨b6, 0, none⟩) 2 2, .slice (some ⟨b7, 0, none⟩) 1 1] 31)
    rwa [World.size_alloc] at this
  have hb2 : Below w.heap.size w W2 := H1.out.2.trans (k2.below H1.out.2.size (by simp))
  rw [← hW2, ← hlb, ← hpb]
  have hpl : pb < lb ∧ D ≤ pb := by omega
  have hk2' := k2
  have hD' := hD
  clear hW2 hD k2
  have kX : Keep [] W2 ((W2.alloc (.cells #[.int .i64 30] 3)).alloc (.cells #[.bool false] 4)) := ((Keep.refl _ _).alloc _).alloc _
  have kr := run_ex (S2.keep0 kX).M W2.heap.size (W2.heap.size + 1) (heap_alloc' (heap_alloc_new _ _) _) (by have := heap_alloc_new (W2.alloc (.cells #[.int .i64 30] 3)) (.cells #[.bool false] 4); rwa [World.size_alloc] at this)
  obtain ⟨c0, c1, c2, c3, c4, c5, z1, z2⟩ := S2.cells
  have H2 := Lib.hid (And.intro S2 (And.intro hb2 kr))
  have HP2 := Lib.hid (And.intro ((hk2'.block _ (heap_lt HP.out.1) (by simp)).trans HP.out.1) (show PathB D W2 (some ⟨b3, 0, none⟩) 1 [0] by rw [hD']; exact HP.out.2.below (hk2'.below (Nat.le_refl _) (by simp))))
  have hbw : w.heap.size ≤ D ∧ w.heap.size ≤ W2.heap.size ∧ w.heap.size ≤ pb := ⟨by have := H1.out.2.size; omega, hb2.size, by have := H1.out.2.size; omega⟩
  have hb4D : b4 < D := by rw [hD']; exact heap_lt HP.out.1
  clear S2 hb2 kr kX hlb hpb H1 HP hk2' hD'
  go_upto_region 3 with (go_at_call 19; refine H2.out.2.2.mono ?_; rintro e w3 ⟨A3, d3, B3, f3, rfl, o3, b3', fr3⟩; have H3 := Lib.hid (And.intro o3 b3'); have HF3 := Lib.hid fr3; clear o3 b3' fr3)
  obtain ⟨W3, hW3⟩ : ∃ W, W = w3.alloc (.cells #[.slice A3 1 d3, .slice B3 1 f3] 42) := ⟨_, rfl⟩
  obtain ⟨sb, hsb⟩ : ∃ b, b = w3.heap.size := ⟨_, rfl⟩
  have k3 : Keep [] W2 W3 := by rw [hW3]; exact (((((Keep.refl _ _).alloc _).alloc _).trans (Keep.of_below (S := []) H3.out.2) (by simp)).alloc _)
  have g3 : W3.heap[sb]? = some (.cells #[.slice A3 1 d3, .slice B3 1 f3] 42 (0, 0)) := by rw [hW3, hsb]; exact heap_alloc_new _ _
  have R3 : Rd W3 1 A3 1 (ints [24]) := by rw [hW3]; exact H3.out.1.below ((Below.refl _ _).alloc (Nat.le_refl _) _)
  have S3 := H2.out.1.keep0 k3
  have kf := fold_ex S3.M
  have hge : w.heap.size ≤ W3.heap.size := by have := k3.size; omega
  rw [← hW3, ← hsb]
  clear hW3 hsb c0 c1 c2 c3 c4 c5 z1 z2
  obtain ⟨c0, c1, c2, c3, c4, c5, z1, z2⟩ := S3.cells
  have H4 := Lib.hid (And.intro k3 (And.intro g3 (And.intro R3 (And.intro S3 kf))))
  clear k3 g3 R3 S3 kf
  go_upto_region 4 with (go_at_call 29; refine H4.out.2.2.2.2.mono ?_; rintro e w4 ⟨rfl, b4'⟩; have HF := Lib.hid b4'; clear b4')
  obtain ⟨W4, hW4⟩ : ∃ W, W = w4.alloc (.cells #[.int .i64 (-6), .int .i64 15, .int .i64 58] 59) := ⟨_, rfl⟩
  obtain ⟨mb, hmb⟩ : ∃ b, b = w4.heap.size := ⟨_, rfl⟩
  have k4 : Keep [] W3 W4 := by rw [hW4]; exact (Keep.of_below (S := []) HF.out).alloc _
  have g4 : W4.heap[mb]? = some (.cells #[.int .i64 (-6), .int .i64 15, .int .i64 58] 59 (0, 0)) := by rw [hW4, hmb]; exact heap_alloc_new _ _
  have S4 := H4.out.2.2.2.1.keep0 k4
  have ks := stays_ex S4.M
  rw [← hW4, ← hmb]
  clear hW4 hmb c0 c1 c2 c3 c4 c5 z1 z2
  obtain ⟨c0, c1, c2, c3, c4, c5, z1, z2⟩ := S4.cells
  have H5 := Lib.hid (And.intro k4 (And.intro g4 (And.intro S4 ks)))
  clear k4 g4 S4 ks
  go_upto_region 5 with (go_at_call 14; refine H5.out.2.2.2.mono ?_; rintro e w5 ⟨A5, d5, rfl, o5, b5, fr5⟩; have HS := Lib.hid (And.intro o5 b5); have HF5 := Lib.hid fr5; clear o5 b5 fr5)
  have k5 : Keep [] W4 w5 := Keep.of_below HS.out.2
  have S5 := H5.out.2.2.1.keep0 k5
  clear c0 c1 c2 c3 c4 c5 z1 z2
  obtain ⟨c0, c1, c2, c3, c4, c5, z1, z2⟩ := S5.cells
  have f5 := frozen_of_heap S5.hl 2
  have H6 := Lib.hid (And.intro k5 S5)
  clear k5 S5
  go_upto_region 6 with fail
  obtain ⟨W6, hW6⟩ : ∃ W, W = w5.setCell ⟨lb, 2, none⟩ (.slice none 0 0) := ⟨_, rfl⟩
  have k6 : Keep [lb] w5 W6 := by rw [hW6]; exact (Keep.refl _ _).setCell (.inl (by simp)) _
  have S6 : AwS D b2 b4 b6 b7 pb lb (.slice (some ⟨b4, 0, none⟩) 1 1) (.slice none 0 0) W6 := by
    have S5 := H6.out.2
    rw [hW6] at k6 ⊢
    exact ⟨S5.M.keep k6 (by simp; omega), heap_set_ne S5.hp (by simp only; omega) _, heap_set S5.hl 2 _⟩
  have kw := worn_ex S6.M
  rw [← hW6]
  clear hW6 c0 c1 c2 c3 c4 c5 z1 z2 f5
  obtain ⟨c0, c1, c2, c3, c4, c5, z1, z2⟩ := S6.cells
  have H7 := Lib.hid (And.intro k6 (And.intro S6 kw))
  clear k6 S6 kw
  go_upto_region 7 with (go_at_call 17; refine H7.out.2.2.mono ?_; rintro e w7 ⟨rfl, b7'⟩; have HW := Lib.hid b7'; clear b7')
  have S7 := H7.out.2.1.keep0 (Keep.of_below HW.out)
  have kA : Keep [lb] W2 w7 := (((H4.out.1.trans H5.out.1 (by simp)).trans H6.out.1 (by simp)).mono (S' := [lb]) (by simp)).trans (H7.out.1.trans (Keep.of_below (S := []) HW.out) (by simp)) (fun x hx => .inl hx)
  have hb7 : w7.heap[b4]? = some (.cells #[.int .i64 900, .slice (some ⟨b3, 0, none⟩) 1 1] 53 (0, 0)) := (kA.block _ (heap_lt HP2.out.1) (by simp; omega)).trans HP2.out.1
  have hp7 : PathB D w7 (some ⟨b3, 0, none⟩) 1 [0] := HP2.out.2.below (kA.below H2.out.1.M.hD (by simp; omega))
  clear c0 c1 c2 c3 c4 c5 z1 z2
  obtain ⟨c0, c1, c2, _, _, _, z1, _⟩ := S7.cells
  obtain ⟨i0, hi, hz0, hz1, hz2⟩ := info_parts infoBrt
  obtain ⟨X, hX⟩ : ∃ X, X = (w7.alloc (.cells #[.int .i64 0] 3)).alloc (.cells #[.int .i64 700, .slice (some ⟨w7.heap.size, 0, none⟩) 1 1] 53) := ⟨_, rfl⟩
  have kX : Keep [] w7 X := by rw [hX]; exact ((Keep.refl _ _).alloc _).alloc _
  have oX : OwnS X 53 2 (some ⟨b4, 0, none⟩) 1 1 [.int .i64 900, .slice (some ⟨b3, 0, none⟩) 1 1] [b4] :=
    ⟨rfl, .inr ⟨b4, _, rfl, rfl, (kX.block _ (heap_lt hb7) (by simp)).trans hb7, by decide, by decide, rfl, fun j u hu => by simpa using hu⟩⟩
  have rX : Rd X 2 (some ⟨w7.heap.size + 1, 0, none⟩) 1 [.int .i64 700, .slice (some ⟨w7.heap.size, 0, none⟩) 1 1] := by
    have := rd_litP (w7.alloc (.cells #[.int .i64 0] 3)) 2 1 [.int .i64 700, .slice (some ⟨w7.heap.size, 0, none⟩) 1 1] 53 rfl
    rw [World.size_alloc] at this
    rw [hX]; exact this
  have H8 := Lib.hid (And.intro kX (And.intro oX (And.intro rX (And.intro S7 (And.intro kA (And.intro hb7 hp7))))))
  clear kX oX rX S7 kA hb7 hp7
  go_upto_region 8 with (at_builtin
                         refine wpList_append_M rfl (.tmp 51) (.tmp 54) 24 rfl i0 _ 32 Try.underlying24 hi hz0 hz1 hz2 rfl (A := some ⟨b4, 0, none⟩) (n := 1) (c := 1) (B := some ⟨w7.heap.size + 1, 0, none⟩) (m := 1) (d := 1) (xs := [.int .i64 900, .slice (some ⟨b3, 0, none⟩) 1 1]) (fp := [b4]) (ys := [.int .i64 700, .slice (some ⟨w7.heap.size, 0, none⟩) 1 1]) (by simp [Act.eval]) (by simp [Act.eval]) (by rw [← hX]; exact H8.out.2.1) (by rw [← hX]; exact H8.out.2.2.1) (by intro u hu; simp at hu; rcases hu with rfl | rfl <;> rfl) (by omega) (by omega) ?_
                         intro A' c' w8 fp' h1 h2 h3
                         rw [← hX] at h2 h3
                         have S8 := H8.out.2.2.2.1.keep0 H8.out.1
                         have hp8 := (h3.block _ (heap_lt S8.hp) (by simp; omega)).trans S8.hp
                         have p0 := (cell_of_heap hp8 0).trans rfl
                         have p1 := (cell_of_heap hp8 1).trans rfl
                         have p2 := (cell_of_heap hp8 2).trans rfl
                         have f8 := frozen_of_heap hp8 1
                         have z8 := heap_lt hp8
                         have HR := Lib.hid hp8
                         clear hp8 S8
                         have HQ := Lib.hid (And.intro h1 (And.intro h2 h3))
                         clear h1 h2 h3)
  obtain ⟨oQ, iQ, kQ⟩ := HQ.out
  obtain ⟨g, cur, rfl, rfl, hg, hc1, hc2, hc3, hc4⟩ := oQ.2.resolve_left (fun h => by cases h.2.1)
  obtain ⟨W9, hW9⟩ : ∃ W, W = w8.setCell ⟨pb, 1, none⟩ (.slice (some ⟨g, 0, none⟩) 2 c') := ⟨_, rfl⟩
  have hgp : g ≠ pb := ne_ty hg HR.out (by decide)
  have hk9 : Keep [b4, pb] X W9 := by rw [hW9]; exact (kQ.mono (by simp)).setCell (.inl (by simp)) _
  have hp9 : W9.heap[pb]? = some (.cells #[.slice (some ⟨b2, 0, none⟩) 1 1, .slice (some ⟨g, 0, none⟩) 2 c', .int .i64 3] 26 (0, 0)) := by rw [hW9]; exact heap_set HR.out 1 _
  have hg9 : W9.heap[g]? = some (.cells cur 53 (0, 0)) := by rw [hW9]; exact heap_set_ne hg hgp _
  have q0 : W9.cell? ⟨pb, 0, none⟩ = some (.slice (some ⟨b2, 0, none⟩) 1 1) := (cell_of_heap hp9 0).trans rfl
  have q1 : W9.cell? ⟨pb, 1, none⟩ = some (.slice (some ⟨g, 0, none⟩) 2 c') := (cell_of_heap hp9 1).trans rfl
  have q2 : W9.cell? ⟨pb, 2, none⟩ = some (.int .i64 3) := (cell_of_heap hp9 2).trans rfl
  have z9 := heap_lt hp9
  rw [← hW9]
  have hpn : X.heap[w7.heap.size]? = some (.cells #[.int .i64 0] 3 (0, 0)) := by rw [hX]; exact heap_alloc' (heap_alloc_new _ _) _
  have hs7 := H8.out.2.2.2.1.M.hD
  have hpb7 := heap_lt H8.out.2.2.2.1.hp
  have hXs : X.heap.size = w7.heap.size + 2 := by rw [hX]; simp
  obtain ⟨Y, hY⟩ : ∃ Y, Y = W9.alloc (.cells #[.int .i64 0, .int .i64 10, .int .i64 8, .int .i64 600, .int .i64 1, .int .i64 4, .int .i64 5, .int .i64 800, .int .i64 2, .int .i64 20, .int .i64 3, .int .i64 650] 102) := ⟨_, rfl⟩
  have kY : Keep [b4, pb] X Y := by rw [hY]; exact hk9.alloc _
  have kY7 : Keep [b4, pb] w7 Y := (H8.out.1.mono (S' := [b4, pb]) (by simp)).trans kY (fun x hx => .inl hx)
  have hvY : Y.heap[W9.heap.size]? = some (.cells #[.int .i64 0, .int .i64 10, .int .i64 8, .int .i64 600, .int .i64 1, .int .i64 4, .int .i64 5, .int .i64 800, .int .i64 2, .int .i64 20, .int .i64 3, .int .i64 650] 102 (0, 0)) := by rw [hY]; exact heap_alloc_new _ _
  have hgY : Y.heap[g]? = some (.cells cur 53 (0, 0)) := by rw [hY]; exact heap_alloc' hg9 _
  have hnY : Y.heap[w7.heap.size]? = some (.cells #[.int .i64 0] 3 (0, 0)) := (kY.block _ (heap_lt hpn) (by simp; omega)).trans hpn
  have hch : RdB Y.heap.size Y 3 (some ⟨b2, 0, none⟩) 1 (chcs exPrt.chs) := RdB.of (kY7.rd (H8.out.2.2.2.1.M.PB.chs.rd hs7) (fun b off e => by injection e with e; injection e with e _ _; simp; omega)) (Nat.le_refl _)
  have hpt : PathB Y.heap.size Y (some ⟨b3, 0, none⟩) 1 [0] := ⟨RdB.of (kY7.rd (H8.out.2.2.2.2.2.2.1.rd hs7) (fun b off e => by injection e with e; injection e with e _ _; simp; omega)) (Nat.le_refl _), H8.out.2.2.2.2.2.2.2⟩
  have hpt2 : PathB Y.heap.size Y (some ⟨w7.heap.size, 0, none⟩) 1 [0] := ⟨⟨rfl, fun _ => ⟨_, 0, rfl, heap_lt hnY, fun j u hu => (cell_of_heap hnY _).trans (by simpa [ints] using hu)⟩⟩, by simp, by decide, by simp⟩
  have PB2 : PrtB Y.heap.size Y (some ⟨b2, 0, none⟩) 1 (some ⟨g, 0, none⟩) c' exPrt2 := by
    refine ⟨hch, ?_, ⟨by decide, by decide, by simp⟩, ⟨hc1, hc2, by simp⟩⟩
    intro k hk
    have hk2 : k = 0 ∨ k = 1 := by simp [exPrt2] at hk; omega
    rcases hk2 with rfl | rfl
    · exact ⟨g, 0, _, _, rfl, heap_lt hgY, (cell_of_heap hgY _).trans (hc4 0 _ rfl), (cell_of_heap hgY _).trans (hc4 1 _ rfl), hpt⟩
    · exact ⟨g, 0, _, _, rfl, heap_lt hgY, (cell_of_heap hgY _).trans (hc4 2 _ rfl), (cell_of_heap hgY _).trans (hc4 3 _ rfl), hpt2⟩
  have kb := best_ex PB2 (Nat.le_refl _) hvY (heap_lt hvY)
  have HY := Lib.hid (And.intro kY7 (And.intro kb hY))
  clear hW9 hp9 hgp hs7 hpb7 hXs kY kY7 hvY hgY hnY hch hpt hpt2 PB2 kb hY hk9 hg9 hpn hg hc1 hc2 hc3 hc4 p0 p1 p2 f8 z8 oQ iQ kQ hX c0 c1 c2 z1
  go_upto_region 9 with (rw [← HY.out.2.2]; go_at_call 46; refine HY.out.2.1.mono ?_; rintro e w10 ⟨A10, d10, rfl, o10, b10⟩; have HB := Lib.hid (And.intro o10 b10); clear o10 b10)
  go_upto_region 11 with fail
  have kZ : Keep [b4, pb] w7 w10 := HY.out.1.trans (Keep.of_below (S := []) HB.out.2) (by simp)
  have kA5 : Keep [lb] w5 w7 := H7.out.1.trans (Keep.of_below (S := []) HW.out) (by simp)
  have kA4 : Keep [lb] W4 w7 := (H6.out.1.mono (S' := [lb]) (by simp)).trans kA5 (fun x hx => .inl hx)
  have kA3 : Keep [lb] W3 w7 := (H5.out.1.mono (S' := [lb]) (by simp)).trans kA4 (fun x hx => .inl hx)
  have gs7 := (kA3.block _ (heap_lt H4.out.2.1) (by simp; exact ne_ty H4.out.2.1 H4.out.2.2.2.1.hl (by decide))).trans H4.out.2.1
  have gs := (kZ.block _ (heap_lt gs7) (by simp; exact ⟨ne_ty gs7 H8.out.2.2.2.2.2.1 (by decide), ne_ty gs7 H8.out.2.2.2.1.hp (by decide)⟩)).trans gs7
  have gm7 := (kA4.block _ (heap_lt H5.out.2.1) (by simp; exact ne_ty H5.out.2.1 H5.out.2.2.1.hl (by decide))).trans H5.out.2.1
  have gm := (kZ.block _ (heap_lt gm7) (by simp; exact ⟨ne_ty gm7 H8.out.2.2.2.2.2.1 (by decide), ne_ty gm7 H8.out.2.2.2.1.hp (by decide)⟩)).trans gm7
  have u1 := heap_lt H2.out.1.hl
  have u2 := heap_lt H2.out.1.hp
  have u3 := H2.out.1.M.hD
  have u4 := H4.out.1.size
  have u5 := H5.out.1.size
  have R3 : Rd w10 1 A3 1 (ints [24]) := kZ.rd (kA3.rd H4.out.2.2.1 (fun b off e => by have := HF3.out b off e; simp at this ⊢; omega)) (fun b off e => by have := HF3.out b off e; simp at this ⊢; omega)
  have R5 : Rd w10 1 A5 1 (ints [58]) := kZ.rd (kA5.rd HS.out.1 (fun b off e => by have := HF5.out b off e; simp at this ⊢; omega)) (fun b off e => by have := HF5.out b off e; simp at this ⊢; omega)
  have heq : ∀ wx, (binOp .eql 59 (.agg #[.int .i64 (-6), .int .i64 15, .int .i64 58]) (.agg #[.int .i64 (-6), .int .i64 15, .int .i64 58])).run Try.prog wx = .ok (.bool true) wx := fun wx => by
    have u3 := Try.underlying3
    have a3 := Try.isAgg3
    have z3 := Try.sizeOf3
    have hS : Try.prog.underlying 59 = some (.struct (Try.prog.fieldsOf 59)) := by kernel_rfl
    have hp : Try.prog.stoodInHeld 59 = false := by kernel_rfl
    rw [run_eql_struct, show (10000 : Nat) = 9999 + 1 from rfl, run_equalIn_agg wx 9999 59 _ _ hS hp]
    simp only [Program.fieldsOf, Try.underlying59]
    go_simp
  have bA : ∀ (wx : World) (o : Obj), Below wx.heap.size wx (wx.alloc o) := fun wx o => (Below.refl _ _).alloc (Nat.le_refl _) _
  have E1 := eqIntsP_same A3 (some ⟨w10.heap.size, 0, none⟩) d3 1 1 [24] (w10.alloc (.cells #[.int .i64 24] 3)) rfl (by decide) (R3.below (bA _ _)) (rd_litP w10 1 1 (ints [24]) 3 rfl)
  have E2 := fun (wx : World) (b : Below w10.heap.size w10 wx) => eqIntsP_same A5 (some ⟨wx.heap.size, 0, none⟩) d5 1 1 [58] (wx.alloc (.cells #[.int .i64 58] 3)) rfl (by decide) ((R5.below b).below (bA _ _)) (rd_litP wx 1 1 (ints [58]) 3 rfl)
  have E3 := fun (wx : World) (b : Below w10.heap.size w10 wx) => eqPlcs_same A10 (some ⟨wx.heap.size, 0, none⟩) d10 3 3 [⟨1, 0⟩, ⟨0, 1⟩, ⟨0, 6⟩] (wx.alloc (.cells #[.int .i64 1, .int .i64 0, .int .i64 0, .int .i64 1, .int .i64 0, .int .i64 6] 109)) rfl (by decide) ((HB.out.1.below b).below (bA _ _)) (rd_litP wx 2 3 (plcs [⟨1, 0⟩, ⟨0, 1⟩, ⟨0, 6⟩]) 109 rfl)
  have v0 : w10.cell? ⟨sb, 0, none⟩ = some (.slice A3 1 d3) := (cell_of_heap gs 0).trans rfl
  have zs := heap_lt gs
  have HE := Lib.hid (And.intro E1 (And.intro E2 (And.intro E3 (And.intro gm kZ))))
  clear E1 E2 E3 gs7 gs gm7 gm R3 R5 kZ kA5 kA4 kA3 u1 u2 u3 u4 u5 bA q0 q1 q2 z9
  go_wp2_with (first
    | (go_at_call 49; refine (HE.out.2.2.1 w12 HC2.out).mono ?_; rintro e w13 ⟨rfl, b13⟩; have HC3 := Lib.hid (HC2.out.trans (((Below.refl _ _).alloc HC2.out.size _).trans (b13.mono (by have := HC2.out.size; simp; omega)))); clear b13)
    | (go_at_call 28; have bb := HC1; clear bb; refine (HE.out.2.1 w11 HC1.out).mono ?_; rintro e w12 ⟨rfl, b12⟩; have HC2 := Lib.hid (HC1.out.trans (((Below.refl _ _).alloc HC1.out.size _).trans (b12.mono (by have := HC1.out.size; simp; omega)))); clear b12)
    | (go_at_call 28; refine HE.out.1.mono ?_; rintro e w11 ⟨rfl, b11⟩; have HC1 := Lib.hid (((Below.refl w10.heap.size w10).alloc (Nat.le_refl _) _).trans (b11.mono (by simp))); have hm := (HC1.out.block _ (heap_lt HE.out.2.2.2.1)).trans HE.out.2.2.2.1; have m0 := (cell_of_heap hm 0).trans rfl; have m1 := (cell_of_heap hm 1).trans rfl; have m2 := (cell_of_heap hm 2).trans rfl; have zm := heap_lt hm; clear hm b11))
  go_ret
  have y1 := H2.out.2.1.size
  have y2 := H8.out.2.2.2.2.1.size
  have y3 := HE.out.2.2.2.2.size
  exact ⟨rfl, H2.out.2.1.trans ((H8.out.2.2.2.2.1.below y1 (by simp; omega)).trans ((HE.out.2.2.2.2.below (by omega) (by simp; omega)).trans (HC3.out.mono (by omega))))⟩
end Go.Proofs.Ythmldeningpjbaa
/- What lies in memory while a law of layer 9 looks at a port and a plan of numbers. -/
namespace Go.Proofs.Ythmldeningpjbaa
open Go Go.RowKit Sp Pt
set_option linter.unusedVariables false

/-- a port and a plan, in boxes -/
structure PoC where
  pb : Nat
  lb : Nat
  Ac : Option Addr
  cc : Nat
  Ab : Option Addr
  cb : Nat
  p : Prt
  Al : Option Addr
  cl : Nat
  As : Option Addr
  cs : Nat
  l : Pln
structure PoE (c : PoC) (w : World) : Prop where
  hp : w.heap[c.pb]? = some (.cells (prtV c.Ac c.cc c.Ab c.cb c.p) 26 (0, 0))
  hl : w.heap[c.lb]? = some (.cells (plnV c.Al c.cl c.As c.cs c.l) 31 (0, 0))
  PB : PrtB w.heap.size w c.Ac c.cc c.Ab c.cb c.p
  LB : PlnB w.heap.size w c.Al c.cl c.As c.cs c.l
section
variable {c : PoC} {w w' : World}
theorem PoE.below (h : PoE c w) (hb : Below w.heap.size w w') : PoE c w' :=
  ⟨(hb.block _ (heap_lt h.hp)).trans h.hp, (hb.block _ (heap_lt h.hl)).trans h.hl, (h.PB.below hb).mono hb.size, (h.LB.below hb).mono hb.size⟩
theorem PoE.cells (h : PoE c w) : w.cell? ⟨c.pb, 0, none⟩ = some (.slice c.Ac c.p.chs.length c.cc) ∧ w.cell? ⟨c.pb, 1, none⟩ = some (.slice c.Ab c.p.bts.length c.cb) ∧ w.cell? ⟨c.pb, 2, none⟩ = some (.int .i64 c.p.tugs) ∧
    w.cell? ⟨c.lb, 0, none⟩ = some (.int .i64 c.l.hours) ∧ w.cell? ⟨c.lb, 1, none⟩ = some (.slice c.Al c.l.calls.length c.cl) ∧ w.cell? ⟨c.lb, 2, none⟩ = some (.slice c.As c.l.swps.length c.cs) ∧ c.pb < w.heap.size ∧ c.lb < w.heap.size :=
  ⟨(cell_of_heap h.hp 0).trans rfl, (cell_of_heap h.hp 1).trans rfl, (cell_of_heap h.hp 2).trans rfl, (cell_of_heap h.hl 0).trans rfl, (cell_of_heap h.hl 1).trans rfl, (cell_of_heap h.hl 2).trans rfl, heap_lt h.hp, heap_lt h.hl⟩
/-- from what Made and Planned give -/
theorem PoE.made {w1 w2 : World} {Ac Ab Al As : Option Addr} {cc cb cl cs : Nat} {p : Prt} {l : Pln} (PB : PrtB w1.heap.size w1 Ac cc Ab cb p) (LB : PlnB w2.heap.size w2 Al cl As cs l) (b2 : Below (w1.heap.size + 1) (w1.alloc (.cells (prtV Ac cc Ab cb p) 26)) w2) :
    PoE ⟨w1.heap.size, w2.heap.size, Ac, cc, Ab, cb, p, Al, cl, As, cs, l⟩ (w2.alloc (.cells (plnV Al cl As cs l) 31)) := by
  have b1 : Below w1.heap.size w1 w2 := ((Below.refl _ _).alloc (Nat.le_refl _) _).trans (b2.mono (by omega))
  have b3 : Below w2.heap.size w2 (w2.alloc (.cells (plnV Al cl As cs l) 31)) := (Below.refl _ _).alloc (Nat.le_refl _) _
  have hp : w2.heap[w1.heap.size]? = some (.cells (prtV Ac cc Ab cb p) 26 (0, 0)) := (b2.block _ (by omega)).trans (heap_alloc_new w1 _)
  exact ⟨(b3.block _ (heap_lt hp)).trans hp, heap_alloc_new _ _, (((PB.below b1).mono b1.size).below b3).mono b3.size, (LB.below b3).mono b3.size⟩
end
/-- and a state: brash of numbers, no berth busy -/
structure StC where
  sb : Nat
  gb : Nat
  cr : Nat
  ub : Nat
  b : List Int
structure StE (c : PoC) (s : StC) (w : World) : Prop where
  hs : w.heap[s.sb]? = some (.cells #[.slice (some ⟨s.gb, 0, none⟩) s.b.length s.cr, .slice (some ⟨s.ub, 0, none⟩) c.p.bts.length c.p.bts.length] 42 (0, 0))
  SB : SttB w.heap.size w (some ⟨s.gb, 0, none⟩) s.cr (some ⟨s.ub, 0, none⟩) c.p.bts.length (st0 c.p s.b)
section
variable {c : PoC} {s : StC} {w w' : World}
theorem StE.below (h : StE c s w) (hb : Below w.heap.size w w') : StE c s w' := ⟨(hb.block _ (heap_lt h.hs)).trans h.hs, (h.SB.below hb).mono hb.size⟩
theorem StE.cells (h : StE c s w) : w.cell? ⟨s.sb, 0, none⟩ = some (.slice (some ⟨s.gb, 0, none⟩) s.b.length s.cr) ∧ w.cell? ⟨s.sb, 1, none⟩ = some (.slice (some ⟨s.ub, 0, none⟩) c.p.bts.length c.p.bts.length) ∧ s.sb < w.heap.size :=
  ⟨(cell_of_heap h.hs 0).trans rfl, (cell_of_heap h.hs 1).trans rfl, heap_lt h.hs⟩
end
theorem rd_at {w : World} {gb n : Nat} {b : List Int} (h : Rd w 1 (some ⟨gb, 0, none⟩) n (ints b)) (hl : b.length = n) {k : Nat} (hk : k < n) : w.cell? ⟨gb, k, none⟩ = some (.int .i64 (getI b k)) := by
  obtain ⟨b', off, e, hb, hc⟩ := h.2 (by omega)
  injection e with e
  injection e with e1 e2 _
  subst e1 e2
  have := hc k _ (ints_get (by omega))
  rw [Nat.zero_add] at this
  rw [this]; simp [getI]
theorem StE.br {c : PoC} {s : StC} {w : World} (h : StE c s w) {k : Nat} (hk : k < s.b.length) : w.cell? ⟨s.gb, k, none⟩ = some (.int .i64 (getI s.b k)) := rd_at (h.SB.br.rd (Nat.le_refl _)) rfl hk
theorem own_nil {w : World} {e : TypeId} {s n c : Nat} {A : Option Addr} {xs : List Value} {q : List Nat} (ho : OwnS w e s A n c xs q) (hA : A = none) : c = 0 := by
  rcases ho.2 with ⟨_, _, h3, _⟩ | ⟨g, cur, e1, _⟩
  · exact h3
  · rw [hA] at e1; cases e1
theorem StE.of {c : PoC} {s : StC} {w : World} {q : List Nat} (hs : w.heap[s.sb]? = some (.cells #[.slice (some ⟨s.gb, 0, none⟩) s.b.length s.cr, .slice (some ⟨s.ub, 0, none⟩) c.p.bts.length c.p.bts.length] 42 (0, 0)))
    (h1 : OwnS w 3 1 (some ⟨s.gb, 0, none⟩) s.b.length s.cr (ints s.b) q) (h2 : OwnS w 4 1 (some ⟨s.ub, 0, none⟩) c.p.bts.length c.p.bts.length (bools (noB c.p)) [s.ub]) : StE c s w := by
  have e : (noB c.p).length = c.p.bts.length := by simp [noB]
  refine ⟨hs, RdB.of h1.rd (Nat.le_refl _), ?_, ⟨h1.ge, h1.cap, own_nil h1⟩, ⟨by simp [st0, noB], h2.cap, fun h => by cases h⟩⟩
  have := h2.rd
  simp only [st0, e]
  exact RdB.of this (Nat.le_refl _)
/-- the calls that laws make -/
theorem PoE.run {c : PoC} {s : StC} {w : World} (h : PoE c w) (hs : StE c s w) : Calls Try.prog 19 #[.agg (prtV c.Ac c.cc c.Ab c.cb c.p), .agg #[.slice (some ⟨s.gb, 0, none⟩) s.b.length s.cr, .slice (some ⟨s.ub, 0, none⟩) c.p.bts.length c.p.bts.length], .agg (plnV c.Al c.cl c.As c.cs c.l)] w (RunsPost w c.p (st0 c.p s.b) c.l) := by
  have := Run_any w.heap.size c.Ac c.cc c.Ab c.cb c.p c.Al c.cl c.As c.cs c.l (some ⟨s.gb, 0, none⟩) s.cr (some ⟨s.ub, 0, none⟩) c.p.bts.length (st0 c.p s.b) w h.PB h.LB hs.SB (Nat.le_refl _)
  simp only [sttV, st0, noB, List.length_replicate] at this ⊢
  exact this
theorem PoE.trace {c : PoC} {s : StC} {w : World} (h : PoE c w) (hs : StE c s w) : Calls Try.prog 27 #[.agg (prtV c.Ac c.cc c.Ab c.cb c.p), .agg #[.slice (some ⟨s.gb, 0, none⟩) s.b.length s.cr, .slice (some ⟨s.ub, 0, none⟩) c.p.bts.length c.p.bts.length], .agg (plnV c.Al c.cl c.As c.cs c.l)] w (TracePost w c.p (st0 c.p s.b) c.l) := by
  have := Trace_any w.heap.size c.Ac c.cc c.Ab c.cb c.p c.Al c.cl c.As c.cs c.l (some ⟨s.gb, 0, none⟩) s.cr (some ⟨s.ub, 0, none⟩) c.p.bts.length (st0 c.p s.b) w h.PB h.LB hs.SB (Nat.le_refl _)
  simp only [sttV, st0, noB, List.length_replicate] at this ⊢
  exact this
theorem PoE.fold {c : PoC} {w : World} (h : PoE c w) (k : Int) : Calls Try.prog 29 #[.agg (prtV c.Ac c.cc c.Ab c.cb c.p), .agg (plnV c.Al c.cl c.As c.cs c.l), .int .i64 k] w
      fun e w' => e = .returned (.tuple #[mpV (foldVal c.p c.l k), .int .i64 (foldE c.p c.l k)]) ∧ Below w.heap.size w w' :=
  Fold_any w.heap.size c.Ac c.cc c.Ab c.cb c.p c.Al c.cl c.As c.cs c.l k w h.PB h.LB (Nat.le_refl _)
theorem rd_lt {w : World} {size n : Nat} {A : Option Addr} {xs : List Value} (hr : Rd w size A n xs) : 0 < n → ∀ b off, A = some ⟨b, off, none⟩ → b < w.heap.size := fun h0 b off e => by
  obtain ⟨b', o', e', hb, _⟩ := hr.2 h0
  rw [e] at e'
  injection e' with e'
  injection e' with e' _ _
  omega
/-- more brash, in a list of brash that is being made -/
def BrOk (B : Int) (b : List Int) : Prop := ∀ x ∈ b, 0 ≤ x ∧ x < B
theorem BrOk.snoc {B : Int} {b : List Int} (h : BrOk B b) {x : Int} (hx : 0 ≤ x ∧ x < B) : BrOk B (b ++ [x]) := fun y hy => by
  rcases List.mem_append.1 hy with hy | hy
  · exact h y hy
  · rw [List.mem_singleton.1 hy]; exact hx
theorem ints_snoc (b : List Int) (x : Int) : ints b ++ [.int .i64 x] = ints (b ++ [x]) := by simp [ints]
/-- Drawn, as laws call it: its bytes lie below D -/
theorem drawn_at (D : Nat) (A : Option Addr) (c : Nat) (l : List Int) (w0 w : World) (hr : Rd w0 1 A l.length (byts l)) (hl : Bytes l) (hm : l.length ≤ 9223372036854775800) (hb : Below w0.heap.size w0 w) (hD : w0.heap.size ≤ D) (hDw : D ≤ w.heap.size) :
    Calls Try.prog 16 #[.slice A l.length c] w (DrawnPost D w) :=
  Drawn_some D A c l w (hr.below hb) hl (by omega) hDw fun h0 b off e => Nat.lt_of_lt_of_le (rd_lt hr h0 b off e) hD
end Go.Proofs.Ythmldeningpjbaa
/- PortBest: what its parts share (printed by wip/tools/ptbestl.py) -/
namespace Go.Proofs.Ythmldeningpjbaa
open Go Go.RowKit Go.Lib Sp Pt
set_option linter.unusedVariables false
set_option linter.unusedSimpArgs false

/-- a port and visits, and the places of the best berthing -/
structure BlC where
  pb : Nat
  Ac : Option Addr
  cc : Nat
  Ab : Option Addr
  cb : Nat
  p : Prt
  Av : Option Addr
  cv : Nat
  vis : List Vst
  n : Nat
  Ap : Option Addr
  cp : Nat
  np : Nat
structure BlF (c : BlC) (w : World) : Prop where
  hp : w.heap[c.pb]? = some (.cells (prtV c.Ac c.cc c.Ab c.cb c.p) 26 (0, 0))
  PB : PrtB w.heap.size w c.Ac c.cc c.Ab c.cb c.p
  VB : RdB w.heap.size w 4 c.Av c.vis.length (vscs c.vis)
  AB : RdB w.heap.size w 2 c.Ap (bestV c.p c.vis).length (plcs (bestV c.p c.vis))
structure BlP (c : BlC) : Prop where
  md : MdP c.p
  vok : VsOk c.vis
  n4 : c.vis.length ≤ 4
  hn : c.n = c.vis.length
  hnp : c.np = (bestV c.p c.vis).length
  cap : c.np ≤ c.cp ∧ c.cp ≤ 9223372036854775807
  np5 : c.np ≤ 5
section
variable {c : BlC} {w w' : World}
theorem BlF.below (h : BlF c w) (hb : Below w.heap.size w w') : BlF c w' :=
  ⟨(hb.block _ (heap_lt h.hp)).trans h.hp, (h.PB.below hb).mono hb.size, (h.VB.below hb).mono hb.size, (h.AB.below hb).mono hb.size⟩
theorem BlF.cells (h : BlF c w) : w.cell? ⟨c.pb, 0, none⟩ = some (.slice c.Ac c.p.chs.length c.cc) ∧ w.cell? ⟨c.pb, 1, none⟩ = some (.slice c.Ab c.p.bts.length c.cb) ∧ w.cell? ⟨c.pb, 2, none⟩ = some (.int .i64 c.p.tugs) ∧ c.pb < w.heap.size :=
  ⟨(cell_of_heap h.hp 0).trans rfl, (cell_of_heap h.hp 1).trans rfl, (cell_of_heap h.hp 2).trans rfl, heap_lt h.hp⟩
theorem BlP.ask (h : BlP c) : askedE c.p c.vis = 0 := asked_of (checkP_md h.md) h.vok h.n4
end
/-- channels and paths of a port that is being copied -/
def ChPa (Ac : Option Addr) (cc : Nat) (q1 : List Nat) (p : Prt) (L : List BrR) (w : World) : Prop := OwnS w 144 3 Ac p.chs.length cc (chcs p.chs) q1 ∧ PathsN [] w L
theorem Own.copied {D : Nat} {W0 w w' : World} {L0 : List It} (h : Own D W0 L0 w) {p : Prt} {e : Ending} (hc : OwnPrt w p e w') :
    ∃ Ac cc Ab cb q1 q2 qc L, e = .returned (.agg (prtV Ac cc Ab cb p)) ∧ L.map (·.b) = p.bts ∧ Own D W0 (L0 ++ [.own 53 2 Ab p.bts.length cb (brcs L) q2, .gen qc (ChPa Ac cc q1 p L)]) w' ∧ Below w.heap.size w w' := by
  obtain ⟨Ac, cc, Ab, cb, q1, q2, L, h1, h2, h3, h4, h5, h6, h7, h8, h9⟩ := hc
  refine ⟨Ac, cc, Ab, cb, q1, q2, (newQ w w').filter (fun x => decide (x ∉ q2)), L, h1, h4, ?_, h9⟩
  have a1 := h.new (i := .own 53 2 Ab p.bts.length cb (brcs L) q2) h9 h3 h7
  have hq : ∀ x ∈ (newQ w w').filter (fun x => decide (x ∉ q2)), w.heap.size ≤ x ∧ x < w'.heap.size ∧ x ∉ q2 := fun x hx => by
    rw [List.mem_filter, mem_newQ] at hx
    exact ⟨hx.1.1, hx.1.2, of_decide_eq_true hx.2⟩
  have a2 := a1.add (i := .gen ((newQ w w').filter (fun x => decide (x ∉ q2))) (ChPa Ac cc q1 p L)) ?_ ?_ ?_
  · rw [List.append_assoc] at a2; exact a2
  · refine ⟨fun x hx => (hq x hx).2.1, fun S wx hk hS => ⟨h2.keepS hk fun g hg hm => hS g hm ?_, ?_⟩⟩
    · rw [List.mem_filter, mem_newQ]
      exact ⟨⟨h6 g hg, h2.lt g hg⟩, decide_eq_true (h8 g hg)⟩
    · intro y hy
      have hy' := h5 y hy
      by_cases h0 : 0 < y.b.path.length
      · refine ⟨hk.rd hy'.rd fun b o e hm => ?_, fun _ _ _ _ => by simp, hy'.ge, hy'.cap, hy'.nil⟩
        obtain ⟨b', o', e', hb, _⟩ := hy'.rd.2 h0
        rw [e] at e'
        injection e' with e'
        injection e' with e1 _ _
        have := hy'.off h0 b o e
        simp only [List.mem_append, List.mem_range, not_or, Nat.not_lt] at this
        refine hS b hm ?_
        rw [List.mem_filter, mem_newQ]
        exact ⟨⟨this.2, by omega⟩, decide_eq_true this.1⟩
      · exact ⟨⟨hy'.rd.1, fun h1 => absurd h1 h0⟩, fun h1 => absurd h1 h0, hy'.ge, hy'.cap, hy'.nil⟩
  · intro x hx
    have := (hq x hx).1
    have := h.lo
    simp only [It.fp] at hx
    omega
  · intro j hj x hx hm
    have hx' := hq x hx
    rcases List.mem_append.1 hj with e | e
    · obtain ⟨a, ha⟩ := List.mem_iff_getElem?.1 e
      have := h.lt a ha hm
      omega
    · rw [List.mem_singleton.1 e] at hm
      exact hx'.2.2 hm
theorem infoVst : (Try.prog.info? 102).map (fun i => (i.zero, i.size, i.bytes)) = some (some (.agg #[.int .i64 0, .int .i64 0, .int .i64 0, .int .i64 0]), 4, 32) := by kernel_rfl
structure BlS where
  x : Int
  y : Int
  b1 : Nat
  b2 : Nat
  A : Option Addr
  c : Nat
  q : List Nat
theorem waits_snoc (l : List Vst) (a : List Plc) (x : Plc) : wsum (waitOf l (a ++ [x])) (a.length + 1) = wsum (waitOf l a) a.length + (x.start - (vs l a.length).arr) := by
  show wsum (waitOf l (a ++ [x])) a.length + waitOf l (a ++ [x]) a.length = _
  have h1 : waitOf l (a ++ [x]) a.length = x.start - (vs l a.length).arr := by unfold waitOf; congr 2; simp [pc]
  rw [h1, wsum_congr (g := waitOf l a) _ fun i hi => by unfold waitOf pc; rw [List.getD_eq_getElem?_getD, List.getElem?_append_left (by omega), ← List.getD_eq_getElem?_getD]]
end Go.Proofs.Ythmldeningpjbaa
