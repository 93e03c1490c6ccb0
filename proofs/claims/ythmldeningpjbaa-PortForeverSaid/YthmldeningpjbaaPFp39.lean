/- polynyalaw09.awake -/
import Derived.Test.YthmldeningpjbaaPFp38
set_option linter.unusedVariables false
set_option linter.unusedSimpArgs false
namespace Go.Proofs.Ythmldeningpjbaa
open Go Go.RowKit Sp Pt
set_option linter.unusedVariables false
set_option linter.unusedSimpArgs false
/-- awake's variables p and l, and what they lead to -/
structure AwS (D b2 b4 b6 b7 pb lb : Nat) (x y : Value) (w : World) : Prop where
  M : ExM D b2 b4 b6 b7 w
  hp : w.heap[pb]? = some (.cells #[.slice (some ⟨b2, 0, none⟩) 1 1, x, .int .i64 3] 26 (0, 0))
  hl : w.heap[lb]? = some (.cells #[.int .i64 24, .slice (some ⟨b6, 0, none⟩) 2 2, y] 31 (0, 0))
theorem AwS.keep0 {D b2 b4 b6 b7 pb lb : Nat} {x y : Value} {w w' : World} (h : AwS D b2 b4 b6 b7 pb lb x y w) (hk : Keep [] w w') : AwS D b2 b4 b6 b7 pb lb x y w' :=
  ⟨h.M.keep hk (by simp), (hk.block _ (heap_lt h.hp) (by simp)).trans h.hp, (hk.block _ (heap_lt h.hl) (by simp)).trans h.hl⟩
theorem AwS.cells {D b2 b4 b6 b7 pb lb : Nat} {x y : Value} {w : World} (h : AwS D b2 b4 b6 b7 pb lb x y w) :
    w.cell? ⟨pb, 0, none⟩ = some (.slice (some ⟨b2, 0, none⟩) 1 1) ∧ w.cell? ⟨pb, 1, none⟩ = some x ∧ w.cell? ⟨pb, 2, none⟩ = some (.int .i64 3) ∧ w.cell? ⟨lb, 0, none⟩ = some (.int .i64 24) ∧ w.cell? ⟨lb, 1, none⟩ = some (.slice (some ⟨b6, 0, none⟩) 2 2) ∧ w.cell? ⟨lb, 2, none⟩ = some y ∧ pb < w.heap.size ∧ lb < w.heap.size :=
  ⟨(cell_of_heap h.hp 0).trans rfl, (cell_of_heap h.hp 1).trans rfl, (cell_of_heap h.hp 2).trans rfl, (cell_of_heap h.hl 0).trans rfl, (cell_of_heap h.hl 1).trans rfl, (cell_of_heap h.hl 2).trans rfl, heap_lt h.hp, heap_lt h.hl⟩
theorem rd_litP (w : World) (size n : Nat) (cs : List Value) (t : TypeId) (h : cs.length = n * size) : Rd (w.alloc (.cells cs.toArray t)) size (some ⟨w.heap.size, 0, none⟩) n cs :=
  ⟨h, fun _ => ⟨_, 0, rfl, by simp, fun j u hu => by rw [Nat.zero_add, World.cell?_alloc_new]; simpa using hu⟩⟩
set_option maxRecDepth 100000 in
set_option maxHeartbeats 4000000 in
theorem awakeP_any (w : World) : Calls Try.prog 15 #[] w fun e w' => e = .returned (.bool true) ∧ Below w.heap.size w w' := by
  go_enter Try.func15, Try.ntmps15
  go_upto_region 2 with (go_at_call 69; refine (exa_ex w).mono ?_; rintro e w1 ⟨b2, b3, b4, b6, b7, rfl, M1, hb4, hpa, hord, bw⟩; have H1 := Lib.hid (And.intro M1 bw); have HP := Lib.hid (And.intro hb4 hpa); clear M1 bw hb4 hpa)
  obtain ⟨W2, hW2⟩ : ∃ W, W = (w1.alloc (.cells #[.slice (some ⟨b2, 0, none⟩) 1 1, .slice (some ⟨b4, 0, none⟩) 1 1, .int .i64 3] 26)).alloc (.cells #[.int .i64 24, .slice (some ⟨b6, 0, none⟩) 2 2, .slice (some ⟨b7, 0, none⟩) 1 1] 31) := ⟨_, rfl⟩
  obtain ⟨D, hD⟩ : ∃ D, D = w1.heap.size := ⟨_, rfl⟩
  obtain ⟨lb, hlb⟩ : ∃ b, b = w1.heap.size + 1 := ⟨_, rfl⟩
  obtain ⟨pb, hpb⟩ : ∃ b, b = w1.heap.size := ⟨_, rfl⟩
  have k2 : Keep [] w1 W2 := by rw [hW2]; exact ((Keep.refl _ _).alloc _).alloc _
  have S2 : AwS D b2 b4 b6 b7 pb lb (.slice (some ⟨b4, 0, none⟩) 1 1) (.slice (some ⟨b7, 0, none⟩) 1 1) W2 := by
    refine ⟨by rw [hD]; exact H1.out.1.keep k2 (by simp), by rw [hW2, hpb]; exact heap_alloc' (heap_alloc_new _ _) _, ?_⟩
    rw [hW2, hlb]
    have := heap_alloc_new (w1.alloc (.cells #[.slice (some ⟨b2, 0, none⟩) 1 1, .slice (some ⟨b4, 0, none⟩) 1 1, .int .i64 3] 26)) (.cells #[.int .i64 24, .slice (some ⟨b6, 0, none⟩) 2 2, .slice (some ⟨b7, 0, none⟩) 1 1] 31)
    rwa [World.size_alloc] at this
  have hb2 : Below w.heap.size w W2 := H1.out.2.trans (k2.below H1.out.2.size (by simp))
  rw [← hW2, ← hlb, ← hpb]
  have hpl : pb < lb ∧ D ≤ pb := by omega
  have hk2' := k2
  have hD' := hD
  clear hW2 hD k2
  have kX : Keep [] W2 ((W2.alloc (.cells #[.int .i64 30] 3)).alloc (.cells #[.bool false] 4)) := ((Keep.refl _ _).alloc _).alloc _
  have kr := run_ex (S2.keep0 kX).M W2.heap.size (W2.heap.size + 1) (heap_alloc' (heap_alloc_new _ _) _) (by have := heap_alloc_new (W2.alloc (.cells #[.int .i64 30] 3)) (.cells #[.bool false] 4); rwa [World.size_alloc] at this)
  obtain ⟨c0, c1, c2, c3, c4, c5, z1, z2⟩ := S2.cells
  have H2 := Lib.hid (And.intro S2 (And.intro hb2 kr))
  have HP2 := Lib.hid (And.intro ((hk2'.block _ (heap_lt HP.out.1) (by simp)).trans HP.out.1) (show PathB D W2 (some ⟨b3, 0, none⟩) 1 [0] by rw [hD']; exact HP.out.2.below (hk2'.below (Nat.le_refl _) (by simp))))
  have hbw : w.heap.size ≤ D ∧ w.heap.size ≤ W2.heap.size ∧ w.heap.size ≤ pb := ⟨by have := H1.out.2.size; omega, hb2.size, by have := H1.out.2.size; omega⟩
  have hb4D : b4 < D := by rw [hD']; exact heap_lt HP.out.1
  clear S2 hb2 kr kX hlb hpb H1 HP hk2' hD'
  go_upto_region 3 with (go_at_call 19; refine H2.out.2.2.mono ?_; rintro e w3 ⟨A3, d3, B3, f3, rfl, o3, b3', fr3⟩; have H3 := Lib.hid (And.intro o3 b3'); have HF3 := Lib.hid fr3; clear o3 b3' fr3)
  obtain ⟨W3, hW3⟩ : ∃ W, W = w3.alloc (.cells #[.slice A3 1 d3, .slice B3 1 f3] 42) := ⟨_, rfl⟩
  obtain ⟨sb, hsb⟩ : ∃ b, b = w3.heap.size := ⟨_, rfl⟩
  have k3 : Keep [] W2 W3 := by rw [hW3]; exact (((((Keep.refl _ _).alloc _).alloc _).trans (Keep.of_below (S := []) H3.out.2) (by simp)).alloc _)
  have g3 : W3.heap[sb]? = some (.cells #[.slice A3 1 d3, .slice B3 1 f3] 42 (0, 0)) := by rw [hW3, hsb]; exact heap_alloc_new _ _
  have R3 : Rd W3 1 A3 1 (ints [24]) := by rw [hW3]; exact H3.out.1.below ((Below.refl _ _).alloc (Nat.le_refl _) _)
  have S3 := H2.out.1.keep0 k3
  have kf := fold_ex S3.M
  have hge : w.heap.size ≤ W3.heap.size := by have := k3.size; omega
  rw [← hW3, ← hsb]
  clear hW3 hsb c0 c1 c2 c3 c4 c5 z1 z2
  obtain ⟨c0, c1, c2, c3, c4, c5, z1, z2⟩ := S3.cells
  have H4 := Lib.hid (And.intro k3 (And.intro g3 (And.intro R3 (And.intro S3 kf))))
  clear k3 g3 R3 S3 kf
  go_upto_region 4 with (go_at_call 29; refine H4.out.2.2.2.2.mono ?_; rintro e w4 ⟨rfl, b4'⟩; have HF := Lib.hid b4'; clear b4')
  obtain ⟨W4, hW4⟩ : ∃ W, W = w4.alloc (.cells #[.int .i64 (-6), .int .i64 15, .int .i64 58] 59) := ⟨_, rfl⟩
  obtain ⟨mb, hmb⟩ : ∃ b, b = w4.heap.size := ⟨_, rfl⟩
  have k4 : Keep [] W3 W4 := by rw [hW4]; exact (Keep.of_below (S := []) HF.out).alloc _
  have g4 : W4.heap[mb]? = some (.cells #[.int .i64 (-6), .int .i64 15, .int .i64 58] 59 (0, 0)) := by rw [hW4, hmb]; exact heap_alloc_new _ _
  have S4 := H4.out.2.2.2.1.keep0 k4
  have ks := stays_ex S4.M
  rw [← hW4, ← hmb]
  clear hW4 hmb c0 c1 c2 c3 c4 c5 z1 z2
  obtain ⟨c0, c1, c2, c3, c4, c5, z1, z2⟩ := S4.cells
  have H5 := Lib.hid (And.intro k4 (And.intro g4 (And.intro S4 ks)))
  clear k4 g4 S4 ks
  go_upto_region 5 with (go_at_call 14; refine H5.out.2.2.2.mono ?_; rintro e w5 ⟨A5, d5, rfl, o5, b5, fr5⟩; have HS := Lib.hid (And.intro o5 b5); have HF5 := Lib.hid fr5; clear o5 b5 fr5)
  have k5 : Keep [] W4 w5 := Keep.of_below HS.out.2
  have S5 := H5.out.2.2.1.keep0 k5
  clear c0 c1 c2 c3 c4 c5 z1 z2
  obtain ⟨c0, c1, c2, c3, c4, c5, z1, z2⟩ := S5.cells
  have f5 := frozen_of_heap S5.hl 2
  have H6 := Lib.hid (And.intro k5 S5)
  clear k5 S5
  go_upto_region 6 with fail
  obtain ⟨W6, hW6⟩ : ∃ W, W = w5.setCell ⟨lb, 2, none⟩ (.slice none 0 0) := ⟨_, rfl⟩
  have k6 : Keep [lb] w5 W6 := by rw [hW6]; exact (Keep.refl _ _).setCell (.inl (by simp)) _
  have S6 : AwS D b2 b4 b6 b7 pb lb (.slice (some ⟨b4, 0, none⟩) 1 1) (.slice none 0 0) W6 := by
    have S5 := H6.out.2
    rw [hW6] at k6 ⊢
    exact ⟨S5.M.keep k6 (by simp; omega), heap_set_ne S5.hp (by simp only; omega) _, heap_set S5.hl 2 _⟩
  have kw := worn_ex S6.M
  rw [← hW6]
  clear hW6 c0 c1 c2 c3 c4 c5 z1 z2 f5
  obtain ⟨c0, c1, c2, c3, c4, c5, z1, z2⟩ := S6.cells
  have H7 := Lib.hid (And.intro k6 (And.intro S6 kw))
  clear k6 S6 kw
  go_upto_region 7 with (go_at_call 17; refine H7.out.2.2.mono ?_; rintro e w7 ⟨rfl, b7'⟩; have HW := Lib.hid b7'; clear b7')
  have S7 := H7.out.2.1.keep0 (Keep.of_below HW.out)
  have kA : Keep [lb] W2 w7 := (((H4.out.1.trans H5.out.1 (by simp)).trans H6.out.1 (by simp)).mono (S' := [lb]) (by simp)).trans (H7.out.1.trans (Keep.of_below (S := []) HW.out) (by simp)) (fun x hx => .inl hx)
  have hb7 : w7.heap[b4]? = some (.cells #[.int .i64 900, .slice (some ⟨b3, 0, none⟩) 1 1] 53 (0, 0)) := (kA.block _ (heap_lt HP2.out.1) (by simp; omega)).trans HP2.out.1
  have hp7 : PathB D w7 (some ⟨b3, 0, none⟩) 1 [0] := HP2.out.2.below (kA.below H2.out.1.M.hD (by simp; omega))
  clear c0 c1 c2 c3 c4 c5 z1 z2
  obtain ⟨c0, c1, c2, _, _, _, z1, _⟩ := S7.cells
  obtain ⟨i0, hi, hz0, hz1, hz2⟩ := info_parts infoBrt
  obtain ⟨X, hX⟩ : ∃ X, X = (w7.alloc (.cells #[.int .i64 0] 3)).alloc (.cells #[.int .i64 700, .slice (some ⟨w7.heap.size, 0, none⟩) 1 1] 53) := ⟨_, rfl⟩
  have kX : Keep [] w7 X := by rw [hX]; exact ((Keep.refl _ _).alloc _).alloc _
  have oX : OwnS X 53 2 (some ⟨b4, 0, none⟩) 1 1 [.int .i64 900, .slice (some ⟨b3, 0, none⟩) 1 1] [b4] :=
    ⟨rfl, .inr ⟨b4, _, rfl, rfl, (kX.block _ (heap_lt hb7) (by simp)).trans hb7, by decide, by decide, rfl, fun j u hu => by simpa using hu⟩⟩
  have rX : Rd X 2 (some ⟨w7.heap.size + 1, 0, none⟩) 1 [.int .i64 700, .slice (some ⟨w7.heap.size, 0, none⟩) 1 1] := by
    have := rd_litP (w7.alloc (.cells #[.int .i64 0] 3)) 2 1 [.int .i64 700, .slice (some ⟨w7.heap.size, 0, none⟩) 1 1] 53 rfl
    rw [World.size_alloc] at this
    rw [hX]; exact this
  have H8 := Lib.hid (And.intro kX (And.intro oX (And.intro rX (And.intro S7 (And.intro kA (And.intro hb7 hp7))))))
  clear kX oX rX S7 kA hb7 hp7
  go_upto_region 8 with (at_builtin
                         refine wpList_append_M rfl (.tmp 51) (.tmp 54) 24 rfl i0 _ 32 Try.underlying24 hi hz0 hz1 hz2 rfl (A := some ⟨b4, 0, none⟩) (n := 1) (c := 1) (B := some ⟨w7.heap.size + 1, 0, none⟩) (m := 1) (d := 1) (xs := [.int .i64 900, .slice (some ⟨b3, 0, none⟩) 1 1]) (fp := [b4]) (ys := [.int .i64 700, .slice (some ⟨w7.heap.size, 0, none⟩) 1 1]) (by simp [Act.eval]) (by simp [Act.eval]) (by rw [← hX]; exact H8.out.2.1) (by rw [← hX]; exact H8.out.2.2.1) (by intro u hu; simp at hu; rcases hu with rfl | rfl <;> rfl) (by omega) (by omega) ?_
                         intro A' c' w8 fp' h1 h2 h3
                         rw [← hX] at h2 h3
                         have S8 := H8.out.2.2.2.1.keep0 H8.out.1
                         have hp8 := (h3.block _ (heap_lt S8.hp) (by simp; omega)).trans S8.hp
                         have p0 := (cell_of_heap hp8 0).trans rfl
                         have p1 := (cell_of_heap hp8 1).trans rfl
                         have p2 := (cell_of_heap hp8 2).trans rfl
                         have f8 := frozen_of_heap hp8 1
                         have z8 := heap_lt hp8
                         have HR := Lib.hid hp8
                         clear hp8 S8
                         have HQ := Lib.hid (And.intro h1 (And.intro h2 h3))
                         clear h1 h2 h3)
  obtain ⟨oQ, iQ, kQ⟩ := HQ.out
  obtain ⟨g, cur, rfl, rfl, hg, hc1, hc2, hc3, hc4⟩ := oQ.2.resolve_left (fun h => by cases h.2.1)
  obtain ⟨W9, hW9⟩ : ∃ W, W = w8.setCell ⟨pb, 1, none⟩ (.slice (some ⟨g, 0, none⟩) 2 c') := ⟨_, rfl⟩
  have hgp : g ≠ pb := ne_ty hg HR.out (by decide)
  have hk9 : Keep [b4, pb] X W9 := by rw [hW9]; exact (kQ.mono (by simp)).setCell (.inl (by simp)) _
  have hp9 : W9.heap[pb]? = some (.cells #[.slice (some ⟨b2, 0, none⟩) 1 1, .slice (some ⟨g, 0, none⟩) 2 c', .int .i64 3] 26 (0, 0)) := by rw [hW9]; exact heap_set HR.out 1 _
  have hg9 : W9.heap[g]? = some (.cells cur 53 (0, 0)) := by rw [hW9]; exact heap_set_ne hg hgp _
  have q0 : W9.cell? ⟨pb, 0, none⟩ = some (.slice (some ⟨b2, 0, none⟩) 1 1) := (cell_of_heap hp9 0).trans rfl
  have q1 : W9.cell? ⟨pb, 1, none⟩ = some (.slice (some ⟨g, 0, none⟩) 2 c') := (cell_of_heap hp9 1).trans rfl
  have q2 : W9.cell? ⟨pb, 2, none⟩ = some (.int .i64 3) := (cell_of_heap hp9 2).trans rfl
  have z9 := heap_lt hp9
  rw [← hW9]
  have hpn : X.heap[w7.heap.size]? = some (.cells #[.int .i64 0] 3 (0, 0)) := by rw [hX]; exact heap_alloc' (heap_alloc_new _ _) _
  have hs7 := H8.out.2.2.2.1.M.hD
  have hpb7 := heap_lt H8.out.2.2.2.1.hp
  have hXs : X.heap.size = w7.heap.size + 2 := by rw [hX]; simp
  obtain ⟨Y, hY⟩ : ∃ Y, Y = W9.alloc (.cells #[.int .i64 0, .int .i64 10, .int .i64 8, .int .i64 600, .int .i64 1, .int .i64 4, .int .i64 5, .int .i64 800, .int .i64 2, .int .i64 20, .int .i64 3, .int .i64 650] 102) := ⟨_, rfl⟩
  have kY : Keep [b4, pb] X Y := by rw [hY]; exact hk9.alloc _
  have kY7 : Keep [b4, pb] w7 Y := (H8.out.1.mono (S' := [b4, pb]) (by simp)).trans kY (fun x hx => .inl hx)
  have hvY : Y.heap[W9.heap.size]? = some (.cells #[.int .i64 0, .int .i64 10, .int .i64 8, .int .i64 600, .int .i64 1, .int .i64 4, .int .i64 5, .int .i64 800, .int .i64 2, .int .i64 20, .int .i64 3, .int .i64 650] 102 (0, 0)) := by rw [hY]; exact heap_alloc_new _ _
  have hgY : Y.heap[g]? = some (.cells cur 53 (0, 0)) := by rw [hY]; exact heap_alloc' hg9 _
  have hnY : Y.heap[w7.heap.size]? = some (.cells #[.int .i64 0] 3 (0, 0)) := (kY.block _ (heap_lt hpn) (by simp; omega)).trans hpn
  have hch : RdB Y.heap.size Y 3 (some ⟨b2, 0, none⟩) 1 (chcs exPrt.chs) := RdB.of (kY7.rd (H8.out.2.2.2.1.M.PB.chs.rd hs7) (fun b off e => by injection e with e; injection e with e _ _; simp; omega)) (Nat.le_refl _)
  have hpt : PathB Y.heap.size Y (some ⟨b3, 0, none⟩) 1 [0] := ⟨RdB.of (kY7.rd (H8.out.2.2.2.2.2.2.1.rd hs7) (fun b off e => by injection e with e; injection e with e _ _; simp; omega)) (Nat.le_refl _), H8.out.2.2.2.2.2.2.2⟩
  have hpt2 : PathB Y.heap.size Y (some ⟨w7.heap.size, 0, none⟩) 1 [0] := ⟨⟨rfl, fun _ => ⟨_, 0, rfl, heap_lt hnY, fun j u hu => (cell_of_heap hnY _).trans (by simpa [ints] using hu)⟩⟩, by simp, by decide, by simp⟩
  have PB2 : PrtB Y.heap.size Y (some ⟨b2, 0, none⟩) 1 (some ⟨g, 0, none⟩) c' exPrt2 := by
    refine ⟨hch, ?_, ⟨by decide, by decide, by simp⟩, ⟨hc1, hc2, by simp⟩⟩
    intro k hk
    have hk2 : k = 0 ∨ k = 1 := by simp [exPrt2] at hk; omega
    rcases hk2 with rfl | rfl
    · exact ⟨g, 0, _, _, rfl, heap_lt hgY, (cell_of_heap hgY _).trans (hc4 0 _ rfl), (cell_of_heap hgY _).trans (hc4 1 _ rfl), hpt⟩
    · exact ⟨g, 0, _, _, rfl, heap_lt hgY, (cell_of_heap hgY _).trans (hc4 2 _ rfl), (cell_of_heap hgY _).trans (hc4 3 _ rfl), hpt2⟩
  have kb := best_ex PB2 (Nat.le_refl _) hvY (heap_lt hvY)
  have HY := Lib.hid (And.intro kY7 (And.intro kb hY))
  clear hW9 hp9 hgp hs7 hpb7 hXs kY kY7 hvY hgY hnY hch hpt hpt2 PB2 kb hY hk9 hg9 hpn hg hc1 hc2 hc3 hc4 p0 p1 p2 f8 z8 oQ iQ kQ hX c0 c1 c2 z1
  go_upto_region 9 with (rw [← HY.out.2.2]; go_at_call 46; refine HY.out.2.1.mono ?_; rintro e w10 ⟨A10, d10, rfl, o10, b10⟩; have HB := Lib.hid (And.intro o10 b10); clear o10 b10)
  go_upto_region 11 with fail
  have kZ : Keep [b4, pb] w7 w10 := HY.out.1.trans (Keep.of_below (S := []) HB.out.2) (by simp)
  have kA5 : Keep [lb] w5 w7 := H7.out.1.trans (Keep.of_below (S := []) HW.out) (by simp)
  have kA4 : Keep [lb] W4 w7 := (H6.out.1.mono (S' := [lb]) (by simp)).trans kA5 (fun x hx => .inl hx)
  have kA3 : Keep [lb] W3 w7 := (H5.out.1.mono (S' := [lb]) (by simp)).trans kA4 (fun x hx => .inl hx)
  have gs7 := (kA3.block _ (heap_lt H4.out.2.1) (by simp; exact ne_ty H4.out.2.1 H4.out.2.2.2.1.hl (by decide))).trans H4.out.2.1
  have gs := (kZ.block _ (heap_lt gs7) (by simp; exact ⟨ne_ty gs7 H8.out.2.2.2.2.2.1 (by decide), ne_ty gs7 H8.out.2.2.2.1.hp (by decide)⟩)).trans gs7
  have gm7 := (kA4.block _ (heap_lt H5.out.2.1) (by simp; exact ne_ty H5.out.2.1 H5.out.2.2.1.hl (by decide))).trans H5.out.2.1
  have gm := (kZ.block _ (heap_lt gm7) (by simp; exact ⟨ne_ty gm7 H8.out.2.2.2.2.2.1 (by decide), ne_ty gm7 H8.out.2.2.2.1.hp (by decide)⟩)).trans gm7
  have u1 := heap_lt H2.out.1.hl
  have u2 := heap_lt H2.out.1.hp
  have u3 := H2.out.1.M.hD
  have u4 := H4.out.1.size
  have u5 := H5.out.1.size
  have R3 : Rd w10 1 A3 1 (ints [24]) := kZ.rd (kA3.rd H4.out.2.2.1 (fun b off e => by have := HF3.out b off e; simp at this ⊢; omega)) (fun b off e => by have := HF3.out b off e; simp at this ⊢; omega)
  have R5 : Rd w10 1 A5 1 (ints [58]) := kZ.rd (kA5.rd HS.out.1 (fun b off e => by have := HF5.out b off e; simp at this ⊢; omega)) (fun b off e => by have := HF5.out b off e; simp at this ⊢; omega)
  have heq : ∀ wx, (binOp .eql 59 (.agg #[.int .i64 (-6), .int .i64 15, .int .i64 58]) (.agg #[.int .i64 (-6), .int .i64 15, .int .i64 58])).run Try.prog wx = .ok (.bool true) wx := fun wx => by
    have u3 := Try.underlying3
    have a3 := Try.isAgg3
    have z3 := Try.sizeOf3
    have hS : Try.prog.underlying 59 = some (.struct (Try.prog.fieldsOf 59)) := by kernel_rfl
    have hp : Try.prog.stoodInHeld 59 = false := by kernel_rfl
    rw [run_eql_struct, show (10000 : Nat) = 9999 + 1 from rfl, run_equalIn_agg wx 9999 59 _ _ hS hp]
    simp only [Program.fieldsOf, Try.underlying59]
    go_simp
  have bA : ∀ (wx : World) (o : Obj), Below wx.heap.size wx (wx.alloc o) := fun wx o => (Below.refl _ _).alloc (Nat.le_refl _) _
  have E1 := eqIntsP_same A3 (some ⟨w10.heap.size, 0, none⟩) d3 1 1 [24] (w10.alloc (.cells #[.int .i64 24] 3)) rfl (by decide) (R3.below (bA _ _)) (rd_litP w10 1 1 (ints [24]) 3 rfl)
  have E2 := fun (wx : World) (b : Below w10.heap.size w10 wx) => eqIntsP_same A5 (some ⟨wx.heap.size, 0, none⟩) d5 1 1 [58] (wx.alloc (.cells #[.int .i64 58] 3)) rfl (by decide) ((R5.below b).below (bA _ _)) (rd_litP wx 1 1 (ints [58]) 3 rfl)
  have E3 := fun (wx : World) (b : Below w10.heap.size w10 wx) => eqPlcs_same A10 (some ⟨wx.heap.size, 0, none⟩) d10 3 3 [⟨1, 0⟩, ⟨0, 1⟩, ⟨0, 6⟩] (wx.alloc (.cells #[.int .i64 1, .int .i64 0, .int .i64 0, .int .i64 1, .int .i64 0, .int .i64 6] 109)) rfl (by decide) ((HB.out.1.below b).below (bA _ _)) (rd_litP wx 2 3 (plcs [⟨1, 0⟩, ⟨0, 1⟩, ⟨0, 6⟩]) 109 rfl)
  have v0 : w10.cell? ⟨sb, 0, none⟩ = some (.slice A3 1 d3) := (cell_of_heap gs 0).trans rfl
  have zs := heap_lt gs
  have HE := Lib.hid (And.intro E1 (And.intro E2 (And.intro E3 (And.intro gm kZ))))
  clear E1 E2 E3 gs7 gs gm7 gm R3 R5 kZ kA5 kA4 kA3 u1 u2 u3 u4 u5 bA q0 q1 q2 z9
  go_wp2_with (first
    | (go_at_call 49; refine (HE.out.2.2.1 w12 HC2.out).mono ?_; rintro e w13 ⟨rfl, b13⟩; have HC3 := Lib.hid (HC2.out.trans (((Below.refl _ _).alloc HC2.out.size _).trans (b13.mono (by have := HC2.out.size; simp; omega)))); clear b13)
    | (go_at_call 28; have bb := HC1; clear bb; refine (HE.out.2.1 w11 HC1.out).mono ?_; rintro e w12 ⟨rfl, b12⟩; have HC2 := Lib.hid (HC1.out.trans (((Below.refl _ _).alloc HC1.out.size _).trans (b12.mono (by have := HC1.out.size; simp; omega)))); clear b12)
    | (go_at_call 28; refine HE.out.1.mono ?_; rintro e w11 ⟨rfl, b11⟩; have HC1 := Lib.hid (((Below.refl w10.heap.size w10).alloc (Nat.le_refl _) _).trans (b11.mono (by simp))); have hm := (HC1.out.block _ (heap_lt HE.out.2.2.2.1)).trans HE.out.2.2.2.1; have m0 := (cell_of_heap hm 0).trans rfl; have m1 := (cell_of_heap hm 1).trans rfl; have m2 := (cell_of_heap hm 2).trans rfl; have zm := heap_lt hm; clear hm b11))
  go_ret
  have y1 := H2.out.2.1.size
  have y2 := H8.out.2.2.2.2.1.size
  have y3 := HE.out.2.2.2.2.size
  exact ⟨rfl, H2.out.2.1.trans ((H8.out.2.2.2.2.1.below y1 (by simp; omega)).trans ((HE.out.2.2.2.2.below (by omega) (by simp; omega)).trans (HC3.out.mono (by omega))))⟩
end Go.Proofs.Ythmldeningpjbaa
