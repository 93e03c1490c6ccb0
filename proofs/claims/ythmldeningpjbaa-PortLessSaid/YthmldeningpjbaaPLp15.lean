import Derived.Test.YthmldeningpjbaaPLp14
import Derived.Test.YthmldeningpjbaaProg
import Derived.Test.YthmldeningpjbaaPLp0
import Derived.Test.YthmldeningpjbaaPLp5
import Derived.Test.YthmldeningpjbaaPLp1
set_option linter.unusedVariables false
set_option linter.unusedSimpArgs false
set_option maxRecDepth 100000
set_option maxHeartbeats 40000000
namespace Go.Proofs.Ythmldeningpjbaa
open Go Go.RowKit Sp Pt
structure AwS (D b2 b4 b6 b7 pb lb : Nat) (x y : Value) (w : World) : Prop where
  M : ExM D b2 b4 b6 b7 w
  hp : w.heap[pb]? = some (.cells #[.slice (some ⟨b2, 0, none⟩) 1 1, x, .int .i64 3] 26 (0, 0))
  hl : w.heap[lb]? = some (.cells #[.int .i64 24, .slice (some ⟨b6, 0, none⟩) 2 2, y] 31 (0, 0))
theorem AwS.keep0 {D b2 b4 b6 b7 pb lb : Nat} {x y : Value} {w w' : World} (h : AwS D b2 b4 b6 b7 pb lb x y w) (hk : Keep [] w w') : AwS D b2 b4 b6 b7 pb lb x y w' :=
  ⟨h.M.keep hk (by simp), (hk.block _ (hL_ h.hp) (by simp)).trans h.hp, (hk.block _ (hL_ h.hl) (by simp)).trans h.hl⟩
theorem AwS.cells {D b2 b4 b6 b7 pb lb : Nat} {x y : Value} {w : World} (h : AwS D b2 b4 b6 b7 pb lb x y w) :
    w.cell? ⟨pb, 0, none⟩ = some (.slice (some ⟨b2, 0, none⟩) 1 1) ∧ w.cell? ⟨pb, 1, none⟩ = some x ∧ w.cell? ⟨pb, 2, none⟩ = some (.int .i64 3) ∧ w.cell? ⟨lb, 0, none⟩ = some (.int .i64 24) ∧ w.cell? ⟨lb, 1, none⟩ = some (.slice (some ⟨b6, 0, none⟩) 2 2) ∧ w.cell? ⟨lb, 2, none⟩ = some y ∧ pb < w.heap.size ∧ lb < w.heap.size :=
  ⟨(cOH h.hp 0).trans rfl, (cOH h.hp 1).trans rfl, (cOH h.hp 2).trans rfl, (cOH h.hl 0).trans rfl, (cOH h.hl 1).trans rfl, (cOH h.hl 2).trans rfl, hL_ h.hp, hL_ h.hl⟩
theorem rd_litP (w : World) (size n : Nat) (cs : List Value) (t : TypeId) (h : cs.length = n * size) : Rd (w.alloc (.cells cs.toArray t)) size (some ⟨w.heap.size, 0, none⟩) n cs :=
  ⟨h, fun _ => ⟨_, 0, rfl, by simp, fun j u hu => by rw [Nat.zero_add, World.cell?_alloc_new]; simpa using hu⟩⟩
theorem awakeP_any (w : World) : Calls Try.prog 15 #[] w fun e w' => e = .returned (.bool true) ∧ Below w.heap.size w w' := by
  go_enter Try.func15, Try.ntmps15
  go_upto_region 2 with (go_at_call 69; refine (exa_ex w).mono ?_; rintro e w1 ⟨b2, b3, b4, b6, b7, rfl, M1, hb4, hpa, hord, bw⟩; have H1 := Lib.hid (And.intro M1 bw); have HP := Lib.hid (And.intro hb4 hpa); clear M1 bw hb4 hpa)
  obtain ⟨W2, hW2⟩ : ∃ W, W = (w1.alloc (.cells #[.slice (some ⟨b2, 0, none⟩) 1 1, .slice (some ⟨b4, 0, none⟩) 1 1, .int .i64 3] 26)).alloc (.cells #[.int .i64 24, .slice (some ⟨b6, 0, none⟩) 2 2, .slice (some ⟨b7, 0, none⟩) 1 1] 31) := ⟨_, rfl⟩;obtain ⟨D, hD⟩ : ∃ D, D = w1.heap.size := ⟨_, rfl⟩;obtain ⟨lb, hlb⟩ : ∃ b, b = w1.heap.size + 1 := ⟨_, rfl⟩;obtain ⟨pb, hpb⟩ : ∃ b, b = w1.heap.size := ⟨_, rfl⟩;have k2 : Keep [] w1 W2 := by rw [hW2]; exact ((Keep.refl _ _).alloc _).alloc _
  have S2 : AwS D b2 b4 b6 b7 pb lb (.slice (some ⟨b4, 0, none⟩) 1 1) (.slice (some ⟨b7, 0, none⟩) 1 1) W2 := by
    refine ⟨by rw [hD]; exact H1.out.1.keep k2 (by simp), by rw [hW2, hpb]; exact hA_ (heap_alloc_new _ _) _, ?_⟩;rw [hW2, hlb];have := heap_alloc_new (w1.alloc (.cells #[.slice (some ⟨b2, 0, none⟩) 1 1, .slice (some ⟨b4, 0, none⟩) 1 1, .int .i64 3] 26)) (.cells #[.int .i64 24, .slice (some ⟨b6, 0, none⟩) 2 2, .slice (some ⟨b7, 0, none⟩) 1 1] 31)
    rwa [World.size_alloc] at this
  have hb2 : Below w.heap.size w W2 := H1.out.2.trans (k2.below H1.out.2.size (by simp));rw [← hW2, ← hlb, ← hpb];have hpl : pb < lb ∧ D ≤ pb := by omega
  have hk2' := k2;have hD' := hD;clear hW2 hD k2;have kX : Keep [] W2 ((W2.alloc (.cells #[.int .i64 30] 3)).alloc (.cells #[.bool false] 4)) := ((Keep.refl _ _).alloc _).alloc _;have kr := run_ex (S2.keep0 kX).M W2.heap.size (W2.heap.size + 1) (hA_ (heap_alloc_new _ _) _) (by have := heap_alloc_new (W2.alloc (.cells #[.int .i64 30] 3)) (.cells #[.bool false] 4); rwa [World.size_alloc] at this);obtain ⟨c0, c1, c2, c3, c4, c5, z1, z2⟩ := S2.cells;have H2 := Lib.hid (And.intro S2 (And.intro hb2 kr));have HP2 := Lib.hid (And.intro ((hk2'.block _ (hL_ HP.out.1) (by simp)).trans HP.out.1) (show PathB D W2 (some ⟨b3, 0, none⟩) 1 [0] by rw [hD']; exact HP.out.2.below (hk2'.below (Nat.le_refl _) (by simp))));have hbw : w.heap.size ≤ D ∧ w.heap.size ≤ W2.heap.size ∧ w.heap.size ≤ pb := ⟨by have := H1.out.2.size; omega, hb2.size, by have := H1.out.2.size; omega⟩;have hb4D : b4 < D := by rw [hD']; exact hL_ HP.out.1
  clear S2 hb2 kr kX hlb hpb H1 HP hk2' hD';go_upto_region 3 with (go_at_call 19; refine H2.out.2.2.mono ?_; rintro e w3 ⟨A3, d3, B3, f3, rfl, o3, b3', fr3⟩; have H3 := Lib.hid (And.intro o3 b3'); have HF3 := Lib.hid fr3; clear o3 b3' fr3)
  obtain ⟨W3, hW3⟩ : ∃ W, W = w3.alloc (.cells #[.slice A3 1 d3, .slice B3 1 f3] 42) := ⟨_, rfl⟩;obtain ⟨sb, hsb⟩ : ∃ b, b = w3.heap.size := ⟨_, rfl⟩;have k3 : Keep [] W2 W3 := by rw [hW3]; exact (((((Keep.refl _ _).alloc _).alloc _).trans (Keep.of_below (S := []) H3.out.2) (by simp)).alloc _)
  have g3 : W3.heap[sb]? = some (.cells #[.slice A3 1 d3, .slice B3 1 f3] 42 (0, 0)) := by rw [hW3, hsb]; exact heap_alloc_new _ _
  have R3 : Rd W3 1 A3 1 (ints [24]) := by rw [hW3]; exact H3.out.1.below ((Below.refl _ _).alloc (Nat.le_refl _) _)
  have S3 := H2.out.1.keep0 k3;have kf := fold_ex S3.M;have hge : w.heap.size ≤ W3.heap.size := by have := k3.size; omega
  rw [← hW3, ← hsb];clear hW3 hsb c0 c1 c2 c3 c4 c5 z1 z2;obtain ⟨c0, c1, c2, c3, c4, c5, z1, z2⟩ := S3.cells;have H4 := Lib.hid (And.intro k3 (And.intro g3 (And.intro R3 (And.intro S3 kf))));clear k3 g3 R3 S3 kf;go_upto_region 4 with (go_at_call 29; refine H4.out.2.2.2.2.mono ?_; rintro e w4 ⟨rfl, b4'⟩; have HF := Lib.hid b4'; clear b4')
  obtain ⟨W4, hW4⟩ : ∃ W, W = w4.alloc (.cells #[.int .i64 (-6), .int .i64 15, .int .i64 58] 59) := ⟨_, rfl⟩;obtain ⟨mb, hmb⟩ : ∃ b, b = w4.heap.size := ⟨_, rfl⟩;have k4 : Keep [] W3 W4 := by rw [hW4]; exact (Keep.of_below (S := []) HF.out).alloc _
  have g4 : W4.heap[mb]? = some (.cells #[.int .i64 (-6), .int .i64 15, .int .i64 58] 59 (0, 0)) := by rw [hW4, hmb]; exact heap_alloc_new _ _
  have S4 := H4.out.2.2.2.1.keep0 k4;have ks := stays_ex S4.M;rw [← hW4, ← hmb];clear hW4 hmb c0 c1 c2 c3 c4 c5 z1 z2;obtain ⟨c0, c1, c2, c3, c4, c5, z1, z2⟩ := S4.cells;have H5 := Lib.hid (And.intro k4 (And.intro g4 (And.intro S4 ks)));clear k4 g4 S4 ks;go_upto_region 5 with (go_at_call 14; refine H5.out.2.2.2.mono ?_; rintro e w5 ⟨A5, d5, rfl, o5, b5, fr5⟩; have HS := Lib.hid (And.intro o5 b5); have HF5 := Lib.hid fr5; clear o5 b5 fr5)
  have k5 : Keep [] W4 w5 := Keep.of_below HS.out.2;have S5 := H5.out.2.2.1.keep0 k5;clear c0 c1 c2 c3 c4 c5 z1 z2;obtain ⟨c0, c1, c2, c3, c4, c5, z1, z2⟩ := S5.cells;have f5 := fOH S5.hl 2;have H6 := Lib.hid (And.intro k5 S5);clear k5 S5;go_upto_region 6 with fail
  obtain ⟨W6, hW6⟩ : ∃ W, W = w5.setCell ⟨lb, 2, none⟩ (.slice none 0 0) := ⟨_, rfl⟩;have k6 : Keep [lb] w5 W6 := by rw [hW6]; exact (Keep.refl _ _).setCell (.inl (by simp)) _
  have S6 : AwS D b2 b4 b6 b7 pb lb (.slice (some ⟨b4, 0, none⟩) 1 1) (.slice none 0 0) W6 := by
    have S5 := H6.out.2;rw [hW6] at k6 ⊢;exact ⟨S5.M.keep k6 (by simp; omega), hSN S5.hp (by simp only; omega) _, hS_ S5.hl 2 _⟩
  have kw := worn_ex S6.M;rw [← hW6];clear hW6 c0 c1 c2 c3 c4 c5 z1 z2 f5;obtain ⟨c0, c1, c2, c3, c4, c5, z1, z2⟩ := S6.cells;have H7 := Lib.hid (And.intro k6 (And.intro S6 kw));clear k6 S6 kw;go_upto_region 7 with (go_at_call 17; refine H7.out.2.2.mono ?_; rintro e w7 ⟨rfl, b7'⟩; have HW := Lib.hid b7'; clear b7')
  have S7 := H7.out.2.1.keep0 (Keep.of_below HW.out);have kA : Keep [lb] W2 w7 := (((H4.out.1.trans H5.out.1 (by simp)).trans H6.out.1 (by simp)).mono (S' := [lb]) (by simp)).trans (H7.out.1.trans (Keep.of_below (S := []) HW.out) (by simp)) (fun x hx => .inl hx);have hb7 : w7.heap[b4]? = some (.cells #[.int .i64 900, .slice (some ⟨b3, 0, none⟩) 1 1] 53 (0, 0)) := (kA.block _ (hL_ HP2.out.1) (by simp; omega)).trans HP2.out.1;have hp7 : PathB D w7 (some ⟨b3, 0, none⟩) 1 [0] := HP2.out.2.below (kA.below H2.out.1.M.hD (by simp; omega));clear c0 c1 c2 c3 c4 c5 z1 z2;obtain ⟨c0, c1, c2, _, _, _, z1, _⟩ := S7.cells;obtain ⟨i0, hi, hz0, hz1, hz2⟩ := info_parts infoBrt;obtain ⟨X, hX⟩ : ∃ X, X = (w7.alloc (.cells #[.int .i64 0] 3)).alloc (.cells #[.int .i64 700, .slice (some ⟨w7.heap.size, 0, none⟩) 1 1] 53) := ⟨_, rfl⟩;have kX : Keep [] w7 X := by rw [hX]; exact ((Keep.refl _ _).alloc _).alloc _
  have oX : OwnS X 53 2 (some ⟨b4, 0, none⟩) 1 1 [.int .i64 900, .slice (some ⟨b3, 0, none⟩) 1 1] [b4] :=
    ⟨rfl, .inr ⟨b4, _, rfl, rfl, (kX.block _ (hL_ hb7) (by simp)).trans hb7, by decide, by decide, rfl, fun j u hu => by simpa using hu⟩⟩
  have rX : Rd X 2 (some ⟨w7.heap.size + 1, 0, none⟩) 1 [.int .i64 700, .slice (some ⟨w7.heap.size, 0, none⟩) 1 1] := by
    have := rd_litP (w7.alloc (.cells #[.int .i64 0] 3)) 2 1 [.int .i64 700, .slice (some ⟨w7.heap.size, 0, none⟩) 1 1] 53 rfl;rw [World.size_alloc] at this;rw [hX]; exact this
  have H8 := Lib.hid (And.intro kX (And.intro oX (And.intro rX (And.intro S7 (And.intro kA (And.intro hb7 hp7))))));clear kX oX rX S7 kA hb7 hp7
  go_upto_region 8 with (at_builtin
                         refine wpList_append_M rfl (.tmp 51) (.tmp 54) 24 rfl i0 _ 32 Try.underlying24 hi hz0 hz1 hz2 rfl (A := some ⟨b4, 0, none⟩) (n := 1) (c := 1) (B := some ⟨w7.heap.size + 1, 0, none⟩) (m := 1) (d := 1) (xs := [.int .i64 900, .slice (some ⟨b3, 0, none⟩) 1 1]) (fp := [b4]) (ys := [.int .i64 700, .slice (some ⟨w7.heap.size, 0, none⟩) 1 1]) (by simp [Act.eval]) (by simp [Act.eval]) (by rw [← hX]; exact H8.out.2.1) (by rw [← hX]; exact H8.out.2.2.1) (by intro u hu; simp at hu; rcases hu with rfl | rfl <;> rfl) (by omega) (by omega) ?_;intro A' c' w8 fp' h1 h2 h3;rw [← hX] at h2 h3;have S8 := H8.out.2.2.2.1.keep0 H8.out.1;have hp8 := (h3.block _ (hL_ S8.hp) (by simp; omega)).trans S8.hp;have p0 := (cOH hp8 0).trans rfl;have p1 := (cOH hp8 1).trans rfl;have p2 := (cOH hp8 2).trans rfl;have f8 := fOH hp8 1;have z8 := hL_ hp8;have HR := Lib.hid hp8;clear hp8 S8;have HQ := Lib.hid (And.intro h1 (And.intro h2 h3));clear h1 h2 h3)
  obtain ⟨oQ, iQ, kQ⟩ := HQ.out;obtain ⟨g, cur, rfl, rfl, hg, hc1, hc2, hc3, hc4⟩ := oQ.2.resolve_left (fun h => by cases h.2.1);obtain ⟨W9, hW9⟩ : ∃ W, W = w8.setCell ⟨pb, 1, none⟩ (.slice (some ⟨g, 0, none⟩) 2 c') := ⟨_, rfl⟩;have hgp : g ≠ pb := ne_ty hg HR.out (by decide);have hk9 : Keep [b4, pb] X W9 := by rw [hW9]; exact (kQ.mono (by simp)).setCell (.inl (by simp)) _
  have hp9 : W9.heap[pb]? = some (.cells #[.slice (some ⟨b2, 0, none⟩) 1 1, .slice (some ⟨g, 0, none⟩) 2 c', .int .i64 3] 26 (0, 0)) := by rw [hW9]; exact hS_ HR.out 1 _
  have hg9 : W9.heap[g]? = some (.cells cur 53 (0, 0)) := by rw [hW9]; exact hSN hg hgp _
  have q0 : W9.cell? ⟨pb, 0, none⟩ = some (.slice (some ⟨b2, 0, none⟩) 1 1) := (cOH hp9 0).trans rfl;have q1 : W9.cell? ⟨pb, 1, none⟩ = some (.slice (some ⟨g, 0, none⟩) 2 c') := (cOH hp9 1).trans rfl;have q2 : W9.cell? ⟨pb, 2, none⟩ = some (.int .i64 3) := (cOH hp9 2).trans rfl;have z9 := hL_ hp9;rw [← hW9];have hpn : X.heap[w7.heap.size]? = some (.cells #[.int .i64 0] 3 (0, 0)) := by rw [hX]; exact hA_ (heap_alloc_new _ _) _
  have hs7 := H8.out.2.2.2.1.M.hD;have hpb7 := hL_ H8.out.2.2.2.1.hp;have hXs : X.heap.size = w7.heap.size + 2 := by rw [hX]; simp
  obtain ⟨Y, hY⟩ : ∃ Y, Y = W9.alloc (.cells #[.int .i64 0, .int .i64 10, .int .i64 8, .int .i64 600, .int .i64 1, .int .i64 4, .int .i64 5, .int .i64 800, .int .i64 2, .int .i64 20, .int .i64 3, .int .i64 650] 102) := ⟨_, rfl⟩;have kY : Keep [b4, pb] X Y := by rw [hY]; exact hk9.alloc _
  have kY7 : Keep [b4, pb] w7 Y := (H8.out.1.mono (S' := [b4, pb]) (by simp)).trans kY (fun x hx => .inl hx);have hvY : Y.heap[W9.heap.size]? = some (.cells #[.int .i64 0, .int .i64 10, .int .i64 8, .int .i64 600, .int .i64 1, .int .i64 4, .int .i64 5, .int .i64 800, .int .i64 2, .int .i64 20, .int .i64 3, .int .i64 650] 102 (0, 0)) := by rw [hY]; exact heap_alloc_new _ _
  have hgY : Y.heap[g]? = some (.cells cur 53 (0, 0)) := by rw [hY]; exact hA_ hg9 _
  have hnY : Y.heap[w7.heap.size]? = some (.cells #[.int .i64 0] 3 (0, 0)) := (kY.block _ (hL_ hpn) (by simp; omega)).trans hpn;have hch : RdB Y.heap.size Y 3 (some ⟨b2, 0, none⟩) 1 (chcs exPrt.chs) := RdB.of (kY7.rd (H8.out.2.2.2.1.M.PB.chs.rd hs7) (fun b off e => by injection e with e; injection e with e _ _; simp; omega)) (Nat.le_refl _);have hpt : PathB Y.heap.size Y (some ⟨b3, 0, none⟩) 1 [0] := ⟨RdB.of (kY7.rd (H8.out.2.2.2.2.2.2.1.rd hs7) (fun b off e => by injection e with e; injection e with e _ _; simp; omega)) (Nat.le_refl _), H8.out.2.2.2.2.2.2.2⟩;have hpt2 : PathB Y.heap.size Y (some ⟨w7.heap.size, 0, none⟩) 1 [0] := ⟨⟨rfl, fun _ => ⟨_, 0, rfl, hL_ hnY, fun j u hu => (cOH hnY _).trans (by simpa [ints] using hu)⟩⟩, by simp, by decide, by simp⟩;have PB2 : PrtB Y.heap.size Y (some ⟨b2, 0, none⟩) 1 (some ⟨g, 0, none⟩) c' exPrt2 := by
    refine ⟨hch, ?_, ⟨by decide, by decide, by simp⟩, ⟨hc1, hc2, by simp⟩⟩;intro k hk;have hk2 : k = 0 ∨ k = 1 := by simp [exPrt2] at hk; omega
    rcases hk2 with rfl | rfl
    · exact ⟨g, 0, _, _, rfl, hL_ hgY, (cOH hgY _).trans (hc4 0 _ rfl), (cOH hgY _).trans (hc4 1 _ rfl), hpt⟩
    · exact ⟨g, 0, _, _, rfl, hL_ hgY, (cOH hgY _).trans (hc4 2 _ rfl), (cOH hgY _).trans (hc4 3 _ rfl), hpt2⟩
  have kb := best_ex PB2 (Nat.le_refl _) hvY (hL_ hvY);have HY := Lib.hid (And.intro kY7 (And.intro kb hY));clear hW9 hp9 hgp hs7 hpb7 hXs kY kY7 hvY hgY hnY hch hpt hpt2 PB2 kb hY hk9 hg9 hpn hg hc1 hc2 hc3 hc4 p0 p1 p2 f8 z8 oQ iQ kQ hX c0 c1 c2 z1;go_upto_region 9 with (rw [← HY.out.2.2]; go_at_call 46; refine HY.out.2.1.mono ?_; rintro e w10 ⟨A10, d10, rfl, o10, b10⟩; have HB := Lib.hid (And.intro o10 b10); clear o10 b10)
  go_upto_region 11 with fail
  have kZ : Keep [b4, pb] w7 w10 := HY.out.1.trans (Keep.of_below (S := []) HB.out.2) (by simp);have kA5 : Keep [lb] w5 w7 := H7.out.1.trans (Keep.of_below (S := []) HW.out) (by simp);have kA4 : Keep [lb] W4 w7 := (H6.out.1.mono (S' := [lb]) (by simp)).trans kA5 (fun x hx => .inl hx);have kA3 : Keep [lb] W3 w7 := (H5.out.1.mono (S' := [lb]) (by simp)).trans kA4 (fun x hx => .inl hx);have gs7 := (kA3.block _ (hL_ H4.out.2.1) (by simp; exact ne_ty H4.out.2.1 H4.out.2.2.2.1.hl (by decide))).trans H4.out.2.1;have gs := (kZ.block _ (hL_ gs7) (by simp; exact ⟨ne_ty gs7 H8.out.2.2.2.2.2.1 (by decide), ne_ty gs7 H8.out.2.2.2.1.hp (by decide)⟩)).trans gs7;have gm7 := (kA4.block _ (hL_ H5.out.2.1) (by simp; exact ne_ty H5.out.2.1 H5.out.2.2.1.hl (by decide))).trans H5.out.2.1;have gm := (kZ.block _ (hL_ gm7) (by simp; exact ⟨ne_ty gm7 H8.out.2.2.2.2.2.1 (by decide), ne_ty gm7 H8.out.2.2.2.1.hp (by decide)⟩)).trans gm7;have u1 := hL_ H2.out.1.hl;have u2 := hL_ H2.out.1.hp;have u3 := H2.out.1.M.hD;have u4 := H4.out.1.size;have u5 := H5.out.1.size;have R3 : Rd w10 1 A3 1 (ints [24]) := kZ.rd (kA3.rd H4.out.2.2.1 (fun b off e => by have := HF3.out b off e; simp at this ⊢; omega)) (fun b off e => by have := HF3.out b off e; simp at this ⊢; omega);have R5 : Rd w10 1 A5 1 (ints [58]) := kZ.rd (kA5.rd HS.out.1 (fun b off e => by have := HF5.out b off e; simp at this ⊢; omega)) (fun b off e => by have := HF5.out b off e; simp at this ⊢; omega);have heq : ∀ wx, (binOp .eql 59 (.agg #[.int .i64 (-6), .int .i64 15, .int .i64 58]) (.agg #[.int .i64 (-6), .int .i64 15, .int .i64 58])).run Try.prog wx = .ok (.bool true) wx := fun wx => by
    have u3 := Try.underlying3;have a3 := Try.isAgg3;have z3 := Try.sizeOf3;have hS : Try.prog.underlying 59 = some (.struct (Try.prog.fieldsOf 59)) := by kernel_rfl
    have hp : Try.prog.stoodInHeld 59 = false := by kernel_rfl
    rw [run_eql_struct, show (10000 : Nat) = 9999 + 1 from rfl, run_equalIn_agg wx 9999 59 _ _ hS hp];simp only [Program.fieldsOf, Try.underlying59];go_simp
  have bA : ∀ (wx : World) (o : Obj), Below wx.heap.size wx (wx.alloc o) := fun wx o => (Below.refl _ _).alloc (Nat.le_refl _) _;have E1 := eqIntsP_same A3 (some ⟨w10.heap.size, 0, none⟩) d3 1 1 [24] (w10.alloc (.cells #[.int .i64 24] 3)) rfl (by decide) (R3.below (bA _ _)) (rd_litP w10 1 1 (ints [24]) 3 rfl);have E2 := fun (wx : World) (b : Below w10.heap.size w10 wx) => eqIntsP_same A5 (some ⟨wx.heap.size, 0, none⟩) d5 1 1 [58] (wx.alloc (.cells #[.int .i64 58] 3)) rfl (by decide) ((R5.below b).below (bA _ _)) (rd_litP wx 1 1 (ints [58]) 3 rfl);have E3 := fun (wx : World) (b : Below w10.heap.size w10 wx) => eqPlcs_same A10 (some ⟨wx.heap.size, 0, none⟩) d10 3 3 [⟨1, 0⟩, ⟨0, 1⟩, ⟨0, 6⟩] (wx.alloc (.cells #[.int .i64 1, .int .i64 0, .int .i64 0, .int .i64 1, .int .i64 0, .int .i64 6] 109)) rfl (by decide) ((HB.out.1.below b).below (bA _ _)) (rd_litP wx 2 3 (plcs [⟨1, 0⟩, ⟨0, 1⟩, ⟨0, 6⟩]) 109 rfl);have v0 : w10.cell? ⟨sb, 0, none⟩ = some (.slice A3 1 d3) := (cOH gs 0).trans rfl;have zs := hL_ gs;have HE := Lib.hid (And.intro E1 (And.intro E2 (And.intro E3 (And.intro gm kZ))));clear E1 E2 E3 gs7 gs gm7 gm R3 R5 kZ kA5 kA4 kA3 u1 u2 u3 u4 u5 bA q0 q1 q2 z9;go_wp2_with (first
    | (go_at_call 49; refine (HE.out.2.2.1 w12 HC2.out).mono ?_; rintro e w13 ⟨rfl, b13⟩; have HC3 := Lib.hid (HC2.out.trans (((Below.refl _ _).alloc HC2.out.size _).trans (b13.mono (by have := HC2.out.size; simp; omega)))); clear b13)
    | (go_at_call 28; have bb := HC1; clear bb; refine (HE.out.2.1 w11 HC1.out).mono ?_; rintro e w12 ⟨rfl, b12⟩; have HC2 := Lib.hid (HC1.out.trans (((Below.refl _ _).alloc HC1.out.size _).trans (b12.mono (by have := HC1.out.size; simp; omega)))); clear b12)
    | (go_at_call 28; refine HE.out.1.mono ?_; rintro e w11 ⟨rfl, b11⟩; have HC1 := Lib.hid (((Below.refl w10.heap.size w10).alloc (Nat.le_refl _) _).trans (b11.mono (by simp))); have hm := (HC1.out.block _ (hL_ HE.out.2.2.2.1)).trans HE.out.2.2.2.1; have m0 := (cOH hm 0).trans rfl; have m1 := (cOH hm 1).trans rfl; have m2 := (cOH hm 2).trans rfl; have zm := hL_ hm; clear hm b11))
  go_ret;have y1 := H2.out.2.1.size;have y2 := H8.out.2.2.2.2.1.size;have y3 := HE.out.2.2.2.2.size;exact ⟨rfl, H2.out.2.1.trans ((H8.out.2.2.2.2.1.below y1 (by simp; omega)).trans ((HE.out.2.2.2.2.below (by omega) (by simp; omega)).trans (HC3.out.mono (by omega))))⟩
end Go.Proofs.Ythmldeningpjbaa
namespace Go.Proofs.Ythmldeningpjbaa.Pt
open Sp
def callT (l : Pln) (h : Int) : List Cal → Int
  | [] => 0
  | c :: r => (if c.hour = h then c.tugs else 0) + callT l h r
def swpT (l : Pln) (h : Int) : List Swp → Int
  | [] => 0
  | x :: r => (if x.hour = h then x.tugs else 0) + swpT l h r
def shutL (p : Prt) (h : Int) (path : List Int) (L : List Cal) : Bool := L.any fun c => decide (c.hour = h) && (bt p c.berth).path.any fun x => decide (x ∈ path)
def slotOk (p : Prt) (s : Stt) (l : Pln) (path : List Int) (m t : Int) (h : Nat) : Bool :=
  (path.all fun x => decide (getI (swpN p h l.swps (stN p l s h).brash) x ≤ m)) && !shutL p h path l.calls && decide (t + callT l h l.calls + swpT l h l.swps ≤ p.tugs)
def spanAdd (L : List (Int × Int)) (h : Int) : List (Int × Int) :=
  match L.getLast? with
  | some y => if y.2 = h - 1 then L.dropLast ++ [(y.1, h)] else L ++ [(h, h)]
  | none => L ++ [(h, h)]
def slotS (f : Nat → Bool) : Nat → List (Int × Int)
  | 0 => []
  | k + 1 => if f k then spanAdd (slotS f k) k else slotS f k
def slotE (p : Prt) (s : Stt) (l : Pln) (b m t : Int) : Int :=
  if startE p s l ≠ 0 then startE p s l else if within b 0 ((p.bts.length : Int) - 1) = false ∨ within m 0 1000000 = false ∨ within t 0 20 = false then 1 else (runR p l s).2
def slotV (p : Prt) (s : Stt) (l : Pln) (b m t : Int) : List (Int × Int) := if slotE p s l b m t = 0 then slotS (slotOk p s l (bt p b).path m t) l.hours.toNat else []
end Go.Proofs.Ythmldeningpjbaa.Pt
namespace Go.Proofs.Ythmldeningpjbaa.Pt
open Sp
def tab {T : Type} (H : Nat) (f : Nat → T) : List T := (List.range H).map f
section
variable {T : Type} {H k : Nat} {f g : Nat → T} {x d : T}
theorem tab_congr (h : ∀ j, j < H → f j = g j) : tab H f = tab H g := by
  unfold tab;exact List.map_congr_left fun j hj => h j (List.mem_range.1 hj)
theorem tab_set (hk : k < H) : (tab H f).set k x = tab H (fun j => if j = k then x else f j) := by
  apply List.ext_getElem (by simp [tab]);intro i h1 h2;simp only [tab, List.getElem_set, List.getElem_map, List.getElem_range];by_cases e : k = i
  · rw [if_pos e, if_pos e.symm]
  · rw [if_neg e, if_neg (fun h => e h.symm)]
end
theorem callT_snoc (l : Pln) (h : Int) (c : Cal) : ∀ L, callT l h (L ++ [c]) = callT l h L + (if c.hour = h then c.tugs else 0)
  | [] => by simp [callT]
  | x :: L => by simp only [List.cons_append, callT, callT_snoc l h c L]; omega
theorem swpT_snoc (l : Pln) (h : Int) (c : Swp) : ∀ L, swpT l h (L ++ [c]) = swpT l h L + (if c.hour = h then c.tugs else 0)
  | [] => by simp [swpT]
  | x :: L => by simp only [List.cons_append, swpT, swpT_snoc l h c L]; omega
theorem callT_bd (l : Pln) (h : Int) : ∀ {L : List Cal}, (∀ c ∈ L, 0 ≤ c.tugs ∧ c.tugs ≤ 20) → 0 ≤ callT l h L ∧ callT l h L ≤ 20 * L.length
  | [], _ => by simp [callT]
  | c :: L, hc => by
    have := hc c (by simp);have := callT_bd l h (L := L) (fun x hx => hc x (by simp [hx]));simp only [callT, List.length_cons];split <;> omega
theorem swpT_bd (l : Pln) (h : Int) : ∀ {L : List Swp}, (∀ c ∈ L, 0 ≤ c.tugs ∧ c.tugs ≤ 20) → 0 ≤ swpT l h L ∧ swpT l h L ≤ 20 * L.length
  | [], _ => by simp [swpT]
  | c :: L, hc => by
    have := hc c (by simp);have := swpT_bd l h (L := L) (fun x hx => hc x (by simp [hx]));simp only [swpT, List.length_cons];split <;> omega
def leftC (p : Prt) (l : Pln) (j : Nat) (h : Nat) : Int := p.tugs - callT l h (l.calls.take j)
def leftS (p : Prt) (l : Pln) (j : Nat) (h : Nat) : Int := p.tugs - callT l h l.calls - swpT l h (l.swps.take j)
def shutC (p : Prt) (path : List Int) (l : Pln) (j : Nat) (h : Nat) : Bool := shutL p h path (l.calls.take j)
section
variable {p : Prt} {l : Pln} {path : List Int} {H j : Nat}
theorem leftC_step {k : Nat} {t : Int} (hj : j < l.calls.length) (hk : k < H) (hh : l.calls[j].hour = k) (ht : l.calls[j].tugs = t) : (tab H (leftC p l j)).set k (leftC p l j k - t) = tab H (leftC p l (j + 1)) := by
  rw [tab_set hk];refine tab_congr fun i hi => ?_;simp only [leftC];rw [List.take_succ_eq_append_getElem hj, callT_snoc, hh, ht];by_cases e : i = k
  · subst e; rw [if_pos rfl, if_pos rfl]; omega
  · rw [if_neg e, if_neg (by omega)]; omega
theorem leftS_step {k : Nat} {t : Int} (hj : j < l.swps.length) (hk : k < H) (hh : l.swps[j].hour = k) (ht : l.swps[j].tugs = t) : (tab H (leftS p l j)).set k (leftS p l j k - t) = tab H (leftS p l (j + 1)) := by
  rw [tab_set hk];refine tab_congr fun i hi => ?_;simp only [leftS];rw [List.take_succ_eq_append_getElem hj, swpT_snoc, hh, ht];by_cases e : i = k
  · subst e; rw [if_pos rfl, if_pos rfl]; omega
  · rw [if_neg e, if_neg (by omega)]; omega
theorem shutC_step {k : Nat} {v : Bool} (hj : j < l.calls.length) (hk : k < H) (hh : l.calls[j].hour = k) (hv : v = (shutC p path l j k || (bt p l.calls[j].berth).path.any fun x => decide (x ∈ path))) : (tab H (shutC p path l j)).set k v = tab H (shutC p path l (j + 1)) := by
  rw [tab_set hk];refine tab_congr fun i hi => ?_;simp only [shutC, shutL];rw [List.take_succ_eq_append_getElem hj, List.any_append, List.any_cons, List.any_nil, Bool.or_false, hh];by_cases e : i = k
  · subst e;rw [if_pos rfl, hv, decide_eq_true rfl, Bool.true_and]; rfl
  · rw [if_neg e, decide_eq_false (by omega), Bool.false_and, Bool.or_false]
theorem leftC_zero : tab H (leftC p l 0) = tab H (fun _ => p.tugs) := tab_congr fun i _ => by simp [leftC, callT]
theorem shutC_zero : tab H (shutC p path l 0) = tab H (fun _ => false) := tab_congr fun i _ => by simp [shutC, shutL]
theorem leftC_all : tab H (leftC p l l.calls.length) = tab H (leftS p l 0) := tab_congr fun i _ => by simp [leftC, leftS, swpT]
theorem slotOk_eq {s : Stt} {m t : Int} {h : Nat} : (!shutC p path l l.calls.length h && (!decide (leftS p l l.swps.length h < t) && !path.any (fun x => decide (m < getI (swpN p h l.swps (stN p l s h).brash) x)))) = slotOk p s l path m t h := by
  unfold slotOk shutC leftS;rw [List.take_length, List.take_length];have e1 : (path.all fun x => decide (getI (swpN p h l.swps (stN p l s h).brash) x ≤ m)) = !path.any (fun x => decide (m < getI (swpN p h l.swps (stN p l s h).brash) x)) := by
    rw [List.not_any_eq_all_not]
    congr 1
    funext x
    rw [← decide_not];exact decide_eq_decide.2 (by omega)
  have e2 : (!decide (p.tugs - callT l h l.calls - swpT l h l.swps < t)) = decide (t + callT l h l.calls + swpT l h l.swps ≤ p.tugs) := by
    rw [← decide_not];exact decide_eq_decide.2 (by omega)
  rw [e1, e2];cases shutL p h path l.calls <;> cases decide (t + callT l h l.calls + swpT l h l.swps ≤ p.tugs) <;> simp
theorem slotS_succ (f : Nat → Bool) (k : Nat) : slotS f (k + 1) = if f k then spanAdd (slotS f k) k else slotS f k := rfl
theorem slotS_len (f : Nat → Bool) : ∀ k, (slotS f k).length ≤ k
  | 0 => by simp [slotS]
  | k + 1 => by
    have := slotS_len f k;rw [slotS_succ];split
    · unfold spanAdd;split
      · split
        · simp; omega
        · simp; omega
      · simp; omega
    · omega
end
end Go.Proofs.Ythmldeningpjbaa.Pt
namespace Go.Proofs.Ythmldeningpjbaa
open Go Go.RowKit Sp
def byts (l : List Int) : List Value := l.map (Value.int .u8)
theorem byts_get {l : List Int} {k : Nat} (h : k < l.length) : (byts l)[k]? = some (.int .u8 (l.getD k 0)) := by simp [byts, h]
structure DrawSt (w : World) (ib lb : Nat) (A : Option Addr) (c : Nat) (l : List Int) (k : Nat) : Prop where
  cnt : w.heap[ib]? = some (.cells #[.int .i64 (min k l.length : Nat)] 3 (0, 0))
  lst : w.heap[lb]? = some (.cells #[.slice A l.length c] 22 (0, 0))
  rd : Rd w 1 A l.length (byts l)
theorem DrawSt.keep {w w' : World} {ib lb : Nat} {A : Option Addr} {c : Nat} {l : List Int} {k : Nat} (h : DrawSt w ib lb A c l k) {S : List Nat} (hk : Keep S w w') (h1 : ib ∉ S) (h2 : lb ∉ S) (h3 : 0 < l.length → ∀ b off, A = some ⟨b, off, none⟩ → b ∉ S) : DrawSt w' ib lb A c l k :=
  ⟨(hk.block _ (hL_ h.cnt) h1).trans h.cnt, (hk.block _ (hL_ h.lst) h2).trans h.lst, h.rd.1, fun h0 => (hk.rd h.rd (h3 h0)).2 h0⟩
def draw (l : List Int) (k : Nat) (n : Int) : Int := l.getD k 0 % n
theorem draw_range {l : List Int} (k : Nat) {n : Int} (hn : 0 < n) : 0 ≤ draw l k n ∧ draw l k n < n := ⟨Int.emod_nonneg _ (by omega), Int.emod_lt_of_pos _ hn⟩
def Bytes (l : List Int) : Prop := ∀ x ∈ l, 0 ≤ x ∧ x ≤ 255
theorem Bytes.get {l : List Int} (h : Bytes l) (k : Nat) : 0 ≤ l.getD k 0 ∧ l.getD k 0 ≤ 255 := by
  rw [List.getD_eq_getElem?_getD];cases hk : l[k]? with
  | none => simp
  | some x => exact h x (List.mem_of_getElem? hk)
def NextPost (w : World) (ib lb : Nat) (A : Option Addr) (c : Nat) (l : List Int) (k : Nat) (n : Int) (e : Ending) (w' : World) : Prop :=
  e = .returned (.int .i64 (draw l k n)) ∧ DrawSt w' ib lb A c l (k + 1) ∧ Keep [ib] w w' ∧ w'.heap.size = w.heap.size
theorem next_any (ib lb : Nat) (A : Option Addr) (c : Nat) (l : List Int) (k : Nat) (n : Int) (w : World) (h : DrawSt w ib lb A c l k) (hl : Bytes l) (hm : l.length ≤ 9223372036854775806) (hne : ib ≠ lb) (hA : 0 < l.length → ∀ b off, A = some ⟨b, off, none⟩ → b ≠ ib) (hn : 0 < n ∧ n ≤ 1000) :
    Calls Try.prog 70 #[.int .i64 n, .pointer (some ⟨ib, 0, none⟩), .pointer (some ⟨lb, 0, none⟩)] w (NextPost w ib lb A c l k n) := by
  have ci : w.cell? ⟨ib, 0, none⟩ = some (.int .i64 (min k l.length : Nat)) := (cOH h.cnt 0).trans rfl;have cl : w.cell? ⟨lb, 0, none⟩ = some (.slice A l.length c) := (cOH h.lst 0).trans rfl;have fi := fOH h.cnt 0;have zi := hL_ h.cnt;have zl := hL_ h.lst;obtain ⟨hn1, hn2⟩ := hn;have H := Lib.hid h;by_cases hk : k < l.length
  · obtain ⟨b, off, u, rfl, hb, hu, hc⟩ := h.rd.one hk;rw [byts_get hk] at hu;obtain rfl : Value.int .u8 (l.getD k 0) = u := by injection hu
    obtain ⟨x, hx⟩ : ∃ x, x = l.getD k 0 := ⟨_, rfl⟩;have hxr := hl.get k;rw [← hx] at hc hxr;have hbi : b ≠ ib := hA (by omega) b off rfl;have e1 : (min k l.length : Nat) = k := by omega
    rw [e1] at ci;have e2 := World.cell?_setCell_same w ⟨ib, 0, none⟩ (.int .i64 ((k : Int) + 1)) ci;have HX := Lib.hid hx;clear h hx hu e1
    go_enter Try.func70, Try.ntmps70
    go_wp2
    go_ret;have K : Keep [ib] w (w.setCell ⟨ib, 0, none⟩ (.int .i64 ((k : Int) + 1))) := (Keep.refl _ _).setCell (.inl (by simp)) _;refine ⟨by rw [draw, ← HX.out]; rfl, ⟨?_, (K.block _ zl (by simp; omega)).trans H.out.lst, K.rd H.out.rd fun b' off' e => by have := hA (by omega) b' off' e; simpa using this⟩, K, by simp [World.setCell]⟩;rw [hS_ H.out.cnt, show min (k + 1) l.length = k + 1 from by omega];rfl
  · have e1 : (min k l.length : Nat) = l.length := by omega
    rw [e1] at ci;have HE := Lib.hid e1;clear h e1
    go_enter Try.func70, Try.ntmps70
    go_wp2
    go_ret;refine ⟨?_, ⟨?_, H.out.lst, H.out.rd⟩, Keep.refl _ _, rfl⟩
    · rw [draw, List.getD_eq_getElem?_getD, List.getElem?_eq_none (by omega)]; simp
    · rw [H.out.cnt, show min (k + 1) l.length = min k l.length from by omega]
theorem Drawn_any (A : Option Addr) (c : Nat) (l : List Int) (w : World) (hr : Rd w 1 A l.length (byts l)) :
    Calls Try.prog 16 #[.slice A l.length c] w fun e w' => e = .returned (.func (.func 70) #[] #[.pointer (some ⟨w.heap.size + 1, 0, none⟩), .pointer (some ⟨w.heap.size, 0, none⟩)]) ∧ DrawSt w' (w.heap.size + 1) w.heap.size A c l 0 ∧ Below w.heap.size w w' ∧ w'.heap.size = w.heap.size + 2 := by
  go_enter Try.func16, Try.ntmps16
  go_wp2
  go_ret;have b : Below w.heap.size w ((w.alloc (.cells #[.slice A l.length c] 22)).alloc (.cells #[.int .i64 0] 3)) := ((Below.refl _ _).alloc (Nat.le_refl _) _).alloc (by simp) _;refine ⟨rfl, ⟨?_, hA_ (heap_alloc_new _ _) _, hr.below b⟩, b, by simp⟩;have := heap_alloc_new (w.alloc (.cells #[.slice A l.length c] 22)) (.cells #[.int .i64 0] 3);rw [World.size_alloc] at this;rw [this]; simp
end Go.Proofs.Ythmldeningpjbaa
namespace Go.Proofs.Ythmldeningpjbaa
open Go Go.RowKit Go.Lib Sp
def NxS (D : Nat) (w : World) (ib lb : Nat) : Prop := ∃ A c l k, DrawSt w ib lb A c l k ∧ Bytes l ∧ l.length ≤ 9223372036854775806 ∧ ib ≠ lb ∧ D ≤ ib ∧ D ≤ lb ∧ (0 < l.length → ∀ b off, A = some ⟨b, off, none⟩ → b < D)
theorem NxS.keep {D : Nat} {w w' : World} {ib lb : Nat} (h : NxS D w ib lb) {S : List Nat} (hk : Keep S w w') (hS : ∀ x ∈ S, D ≤ x ∧ x ≠ ib ∧ x ≠ lb) : NxS D w' ib lb := by
  obtain ⟨A, c, l, k, h1, h2, h3, h4, h5, h6, h7⟩ := h;exact ⟨A, c, l, k, h1.keep hk (fun e => (hS _ e).2.1 rfl) (fun e => (hS _ e).2.2 rfl) (fun h0 b off e hm => by have := h7 h0 b off e; have := (hS _ hm).1; omega), h2, h3, h4, h5, h6, h7⟩
theorem NxS.below {D : Nat} {w w' : World} {ib lb : Nat} (h : NxS D w ib lb) (hb : Below w.heap.size w w') : NxS D w' ib lb := h.keep (S := []) (Keep.of_below hb) (by simp)
theorem NxS.lt {D : Nat} {w : World} {ib lb : Nat} (h : NxS D w ib lb) : ib < w.heap.size ∧ lb < w.heap.size ∧ D ≤ ib ∧ D ≤ lb ∧ ib ≠ lb := by
  obtain ⟨A, c, l, k, h1, h2, h3, h4, h5, h6, h7⟩ := h;exact ⟨hL_ h1.cnt, hL_ h1.lst, h5, h6, h4⟩
def SomePost (D : Nat) (w : World) (ib lb : Nat) (n : Int) (e : Ending) (w' : World) : Prop := ∃ x : Int, e = .returned (.int .i64 x) ∧ (0 ≤ x ∧ x < n) ∧ NxS D w' ib lb ∧ Keep [ib] w w' ∧ w'.heap.size = w.heap.size
theorem next_some {D : Nat} {ib lb : Nat} (n : Int) {w : World} (h : NxS D w ib lb) (hn : 0 < n ∧ n ≤ 1000) :
    Calls Try.prog 70 #[.int .i64 n, .pointer (some ⟨ib, 0, none⟩), .pointer (some ⟨lb, 0, none⟩)] w (SomePost D w ib lb n) := by
  obtain ⟨A, c, l, k, h1, h2, h3, h4, h5, h6, h7⟩ := h;refine (next_any ib lb A c l k n w h1 h2 h3 h4 (fun h0 b off e => by have := h7 h0 b off e; omega) hn).mono ?_;rintro e w' ⟨rfl, q1, q2, q3⟩;exact ⟨_, rfl, draw_range k hn.1, ⟨A, c, l, k + 1, q1, h2, h3, h4, h5, h6, h7⟩, q2, q3⟩
def DrawnPost (D : Nat) (w : World) (e : Ending) (w' : World) : Prop := ∃ ib lb, e = .returned (.func (.func 70) #[] #[.pointer (some ⟨ib, 0, none⟩), .pointer (some ⟨lb, 0, none⟩)]) ∧ NxS D w' ib lb ∧ w.heap.size ≤ ib ∧ w.heap.size ≤ lb ∧ Below w.heap.size w w'
theorem Drawn_some (D : Nat) (A : Option Addr) (c : Nat) (l : List Int) (w : World) (hr : Rd w 1 A l.length (byts l)) (hb : Bytes l) (hl : l.length ≤ 9223372036854775806) (hD : D ≤ w.heap.size) (hA : 0 < l.length → ∀ b off, A = some ⟨b, off, none⟩ → b < D) :
    Calls Try.prog 16 #[.slice A l.length c] w (DrawnPost D w) := by
  refine (Drawn_any A c l w hr).mono ?_;rintro e w' ⟨rfl, h1, h2, h3⟩;exact ⟨_, _, rfl, ⟨A, c, l, 0, h1, hb, hl, by omega, by omega, hD, hA⟩, by omega, Nat.le_refl _, h2⟩
end Go.Proofs.Ythmldeningpjbaa
namespace Go.Proofs.Ythmldeningpjbaa
open Go Go.RowKit Sp
structure ApC where
  ib : Nat
  lb : Nat
  k0 : Nat
  A0 : Option Addr
  c0 : Nat
  l0 : List Int
  ob : Nat
  e : TypeId
  sz : Nat
  k : Nat
  A : Option Addr
  c : Nat
  xs : List Value
  q : List Nat
  ys : List Value
  old : Array Value
  new : Option Addr → Nat → Array Value
  t : TypeId
structure ApS where
  bs : Nat
  A : Option Addr
  c : Nat
  g : Nat
structure ApOk (C : ApC) (W0 : World) : Prop where
  dr : DrawSt W0 C.ib C.lb C.A0 C.c0 C.l0 C.k0
  own : OwnS W0 C.e C.sz C.A C.k C.c C.xs C.q
  hob : W0.heap[C.ob]? = some (.cells C.old C.t (0, 0))
  obq : C.ob ∉ C.q
  oib : C.ob ≠ C.ib
  olb : C.ob ≠ C.lb
  ibq : C.ib ∉ C.q
  lbq : C.lb ∉ C.q
  ne : C.ib ≠ C.lb
  apart : 0 < C.l0.length → ∀ b off, C.A0 = some ⟨b, off, none⟩ → b ≠ C.ib ∧ b ≠ C.ob ∧ b ∉ C.q
  byt : Bytes C.l0
  len : C.l0.length ≤ 9223372036854775806
structure ApW (C : ApC) (opB opA opS : Nat) (cnt : (Nat → Bool) → Nat) (W0 : World) (s : ApS) (l : Nat → Bool) (w : World) : Prop where
  kp : Keep (C.ib :: C.ob :: C.q) W0 w
  dr : DrawSt w C.ib C.lb C.A0 C.c0 C.l0 (C.k0 + cnt l)
  own0 : l opA = false → OwnS w C.e C.sz C.A C.k C.c C.xs C.q
  own1 : l opA = true → OwnS w C.e C.sz s.A (C.k + 1) s.c (C.xs ++ C.ys) [s.g] ∧ (s.g ∈ C.q ∨ W0.heap.size ≤ s.g)
  hob : w.heap[C.ob]? = some (.cells (if l opS then C.new s.A s.c else C.old) C.t (0, 0))
  hbs : l opB = true → W0.heap.size ≤ s.bs ∧ w.heap[s.bs]? = some (.cells C.ys.toArray C.e (0, 0))
section
variable {C : ApC} {opB opA opS : Nat} {cnt : (Nat → Bool) → Nat} {W0 w w' : World} {s : ApS} {l : Nat → Bool}
theorem upd_ne {l : Nat → Bool} {i j : Nat} (h : i ≠ j) : upd l i j = l j := by simp [upd, Ne.symm h]
theorem upd_eq {l : Nat → Bool} {i : Nat} : upd l i i = true := by simp [upd]
theorem ApOk.start (O : ApOk C W0) (h : cnt (fun _ => false) = 0) : ApW C opB opA opS cnt W0 s (fun _ => false) W0.drew :=
  ⟨(Keep.refl _ _).drew, by rw [h]; exact O.dr.keep (S := []) ((Keep.refl _ _).drew) (by simp) (by simp) (by simp), fun _ => O.own, (fun h => by cases h), by rw [if_neg (by simp)]; exact O.hob, (fun h => by cases h)⟩
theorem ApOk.fresh (O : ApOk C W0) (H : ApW C opB opA opS cnt W0 s l w) (hb : l opB = true) : s.bs ≠ C.ib ∧ s.bs ≠ C.lb ∧ s.bs ≠ C.ob ∧ s.bs ∉ C.q := by
  have h1 := (H.hbs hb).1;have h2 := hL_ O.dr.cnt;have h3 := hL_ O.dr.lst;have h4 := hL_ O.hob;exact ⟨by omega, by omega, by omega, fun h => by have := O.own.lt _ h; omega⟩
theorem ApW.call (H : ApW C opB opA opS cnt W0 s l w) (O : ApOk C W0) (i : Nat) (hi : i ≠ opB ∧ i ≠ opA ∧ i ≠ opS) (hd : DrawSt w' C.ib C.lb C.A0 C.c0 C.l0 (C.k0 + cnt (upd l i))) (hk : Keep [C.ib] w w') : ApW C opB opA opS cnt W0 s (upd l i) w' := by
  obtain ⟨a1, a2, a3⟩ := hi;have h2 := hL_ O.dr.cnt;refine ⟨H.kp.trans hk (fun x hx => .inl (by simp at hx; simp [hx])), hd, ?_, ?_, ?_, ?_⟩
  · rw [upd_ne a2]; exact fun e => (H.own0 e).keepS hk (fun g hg => by simp; rintro rfl; exact O.ibq hg)
  · rw [upd_ne a2];refine fun e => ⟨(H.own1 e).1.keepS hk (fun g hg => ?_), (H.own1 e).2⟩;rw [List.mem_singleton.1 hg];simp only [List.mem_singleton];rintro e2;rcases (H.own1 e).2 with e3 | e3
    · exact O.ibq (e2 ▸ e3)
    · omega
  · rw [upd_ne a3]; exact (hk.block _ (hL_ H.hob) (by simpa using O.oib)).trans H.hob
  · rw [upd_ne a1]; exact fun e => ⟨(H.hbs e).1, (hk.block _ (hL_ (H.hbs e).2) (by simpa using (O.fresh H e).1)).trans (H.hbs e).2⟩
theorem ApW.other (H : ApW C opB opA opS cnt W0 s l w) (O : ApOk C W0) (i : Nat) (hi : i ≠ opB ∧ i ≠ opA ∧ i ≠ opS) (hc : cnt (upd l i) = cnt l) : ApW C opB opA opS cnt W0 s (upd l i) w :=
  H.call O i hi (by rw [hc]; exact H.dr) (Keep.refl _ _)
theorem ApW.next (H : ApW C opB opA opS cnt W0 s l w) (O : ApOk C W0) (m : Int) (hm : 0 < m ∧ m ≤ 1000) :
    Calls Try.prog 70 #[.int .i64 m, .pointer (some ⟨C.ib, 0, none⟩), .pointer (some ⟨C.lb, 0, none⟩)] w (NextPost w C.ib C.lb C.A0 C.c0 C.l0 (C.k0 + cnt l) m) :=
  next_any C.ib C.lb C.A0 C.c0 C.l0 (C.k0 + cnt l) m w H.dr O.byt O.len O.ne (fun h0 b off e => (O.apart h0 b off e).1) hm
theorem ApW.build (H : ApW C opB opA opS cnt W0 s l w) (O : ApOk C W0) (hn : opB ≠ opA ∧ opB ≠ opS) (hc : cnt (upd l opB) = cnt l) : ApW C opB opA opS cnt W0 { s with bs := w.heap.size } (upd l opB) (w.alloc (.cells C.ys.toArray C.e)) := by
  refine ⟨H.kp.alloc _, ?_, ?_, ?_, ?_, fun _ => ⟨H.kp.size, heap_alloc_new _ _⟩⟩
  · rw [hc]; exact H.dr.keep (S := []) ((Keep.refl _ _).alloc _) (by simp) (by simp) (by simp)
  · rw [upd_ne hn.1]; exact fun e => (H.own0 e).alloc _
  · rw [upd_ne hn.1]; exact fun e => ⟨(H.own1 e).1.alloc _, (H.own1 e).2⟩
  · rw [upd_ne hn.2]; exact hA_ H.hob _
theorem ApW.app (H : ApW C opB opA opS cnt W0 s l w) (O : ApOk C W0) (hn : opB ≠ opA ∧ opA ≠ opS) (hc : cnt (upd l opA) = cnt l) (h8 : l opB = true) (h9 : l opA = false) (h11 : l opS = false) {g c' : Nat} (o1 : OwnS w' C.e C.sz (some ⟨g, 0, none⟩) (C.k + 1) c' (C.xs ++ C.ys) [g]) (o2 : g ∈ C.q ∨ w.heap.size = g) (o3 : Keep C.q w w') :
    ApW C opB opA opS cnt W0 { s with A := some ⟨g, 0, none⟩, c := c', g := g } (upd l opA) w' := by
  have hh := H.hob;rw [h11, if_neg (by simp)] at hh;refine ⟨H.kp.trans o3 (fun x hx => .inl (by simp [hx])), ?_, ?_, ?_, ?_, ?_⟩
  · rw [hc]; exact H.dr.keep o3 O.ibq O.lbq (fun h0 b off e => (O.apart h0 b off e).2.2)
  · rw [upd_eq]; exact fun e => by cases e
  · exact fun _ => ⟨o1, by rcases o2 with e | e; exact .inl e; exact .inr (by have := H.kp.size; simp only; omega)⟩
  · rw [upd_ne hn.2, h11, if_neg (by simp)]; exact (o3.block _ (hL_ hh) O.obq).trans hh
  · rw [upd_ne hn.1.symm];exact fun e => ⟨(H.hbs e).1, (o3.block _ (hL_ (H.hbs e).2) (O.fresh H e).2.2.2).trans (H.hbs e).2⟩
theorem ApW.store (H : ApW C opB opA opS cnt W0 s l w) (O : ApOk C W0) (hn : opB ≠ opS ∧ opA ≠ opS) (hc : cnt (upd l opS) = cnt l) (j : Nat) (hnew : ∀ A c, C.new A c = C.old.setIfInBounds j (.slice A (C.k + 1) c)) (h9 : l opA = true) (h11 : l opS = false) :
    ApW C opB opA opS cnt W0 s (upd l opS) (w.setCell ⟨C.ob, j, none⟩ (.slice s.A (C.k + 1) s.c)) := by
  have hh := H.hob;rw [h11, if_neg (by simp)] at hh;have K : Keep [C.ob] w (w.setCell ⟨C.ob, j, none⟩ (.slice s.A (C.k + 1) s.c)) := (Keep.refl _ _).setCell (.inl (by simp)) _;refine ⟨H.kp.setCell (.inl (by simp)) _, ?_, ?_, ?_, ?_, ?_⟩
  · rw [hc]; exact H.dr.keep K (by simpa using O.oib.symm) (by simpa using O.olb.symm) (fun h0 b off e => by simpa using (O.apart h0 b off e).2.1)
  · rw [upd_ne hn.2.symm, h9]; exact fun e => by cases e
  · rw [upd_ne hn.2.symm];refine fun e => ⟨(H.own1 e).1.keepS K (fun g hg => ?_), (H.own1 e).2⟩;rw [List.mem_singleton.1 hg];simp only [List.mem_singleton];rintro e2;rcases (H.own1 e).2 with e3 | e3
    · exact O.obq (e2 ▸ e3)
    · have := hL_ O.hob; omega
  · rw [upd_eq, if_pos rfl, hnew]; exact hS_ hh j _
  · rw [upd_ne hn.1.symm];exact fun e => ⟨(H.hbs e).1, (K.block _ (hL_ (H.hbs e).2) (by simpa using (O.fresh H e).2.2.1)).trans (H.hbs e).2⟩
theorem ApW.at_append {P : Program} {o : Oper} {a : Act} {K : Act → World → Prop} {Q : Exit → Act → World → Prop} (H : ApW C opB opA opS cnt W0 s l w) (O : ApOk C W0) (x y : Operand) (t : TypeId)
    (ho : o.op = .call { callee := .builtin .append, args := #[x, y], argTypes := #[t, t] })
    (i : TypeInfo) (z : Value) (bytes : Nat) (ht : P.underlying t = some (.slice C.e)) (hi : P.info? C.e = some i) (hz : i.zero = some z)
    (hsize : i.size = C.sz) (hs0 : 0 < C.sz) (hby : i.bytes = bytes) (hzs : z.cells.size = C.sz) (hs : a.eval x = .slice C.A C.k C.c) (hx : a.eval y = .slice (some ⟨s.bs, 0, none⟩) 1 1)
    (hys : C.ys.length = C.sz) (h1 : ∀ u ∈ C.ys, u.oneCell' = true) (hk : C.k + 1 ≤ 1000000000000) (hbytes : bytes ≤ 100) (hn : opB ≠ opA ∧ opA ≠ opS) (hc : cnt (upd l opA) = cnt l) (h8 : l opB = true) (h9 : l opA = false) (h11 : l opS = false)
    (h : ∀ g c' w', ApW C opB opA opS cnt W0 { s with A := some ⟨g, 0, none⟩, c := c', g := g } (upd l opA) w' → K (a.put o.dst (.slice (some ⟨g, 0, none⟩) (C.k + 1) c')) w') : o.wp P a w K Q := by
  have hbs := H.hbs h8;refine wp_append_S x y t ho i z bytes ht hi hz hsize hs0 hby hzs hs ⟨s.bs, 0, none⟩ hx C.ys (H.own0 h9) hys (fun j v hj => by rw [show (⟨s.bs, 0, none⟩ : Addr).add j = ⟨s.bs, j, none⟩ from by simp [Addr.add]; omega]; exact (cOH hbs.2 j).trans (by simpa using hj)) h1 hk hbytes ?_;intro g c' w' o1 o2 o3 o4;exact h g c' w' (H.app O hn hc h8 h9 h11 o1 o2 o4)
end
end Go.Proofs.Ythmldeningpjbaa
namespace Go.Proofs.Ythmldeningpjbaa
open Go Go.RowKit Sp
inductive It where
  | blk (b : Nat) (o : Obj)
  | own (e : TypeId) (sz : Nat) (A : Option Addr) (n c : Nat) (xs : List Value) (q : List Nat)
  | nx (ib lb : Nat)
  | any (b : Nat)
  | gen (q : List Nat) (P : World → Prop)
def It.fp : It → List Nat
  | .blk b _ => [b]
  | .own _ _ _ _ _ _ q => q
  | .nx ib lb => [ib, lb]
  | .any b => [b]
  | .gen q _ => q
def It.holds (D : Nat) (w : World) : It → Prop
  | .blk b o => w.heap[b]? = some o
  | .own e sz A n c xs q => OwnS w e sz A n c xs q
  | .nx ib lb => NxS D w ib lb
  | .any b => b < w.heap.size
  | .gen q P => (∀ x ∈ q, x < w.heap.size) ∧ ∀ (S : List Nat) (w' : World), Keep S w w' → (∀ x ∈ S, x ∉ q) → P w'
theorem It.lt {D : Nat} {w : World} {i : It} (h : i.holds D w) : ∀ x ∈ i.fp, x < w.heap.size := by
  intro x hx;cases i with
  | blk b o => rw [List.mem_singleton.1 hx]; exact hL_ h
  | own e sz A n c xs q => exact OwnS.lt h x hx
  | nx ib lb =>
    have := NxS.lt h;simp only [It.fp, List.mem_cons, List.not_mem_nil, or_false] at hx;rcases hx with rfl | rfl <;> omega
  | any b => rw [List.mem_singleton.1 hx]; exact h
  | gen q P => exact h.1 x hx
theorem It.keep {D : Nat} {w w' : World} {i : It} {S : List Nat} (h : i.holds D w) (hk : Keep S w w') (hS : ∀ x ∈ i.fp, x ∉ S) (hD : ∀ x ∈ S, D ≤ x) : i.holds D w' := by
  cases i with
  | blk b o => exact (hk.block _ (hL_ h) (hS b (by simp [It.fp]))).trans h
  | own e sz A n c xs q => exact OwnS.keepS h hk hS
  | nx ib lb => exact NxS.keep h hk fun x hx => ⟨hD x hx, fun e => hS ib (by simp [It.fp]) (e ▸ hx), fun e => hS lb (by simp [It.fp]) (e ▸ hx)⟩
  | any b => exact Nat.lt_of_lt_of_le h hk.size
  | gen q P =>
    refine ⟨fun x hx => Nat.lt_of_lt_of_le (h.1 x hx) hk.size, fun S' w'' hk' hS' => h.2 (S ++ S') w'' ?_ ?_⟩
    · exact (hk.mono (fun x hx => .inl (by simp [hx]))).trans hk' (fun x hx => .inl (by simp [hx]))
    · intro x hx hm;rcases List.mem_append.1 hx with e | e
      · exact hS x hm e
      · exact hS' x e hm
structure Own (D : Nat) (W0 : World) (L : List It) (w : World) : Prop where
  bel : Below D W0 w
  lo : D ≤ w.heap.size
  at_ : ∀ (a : Nat) (i : It), L[a]? = some i → i.holds D w ∧ ∀ x ∈ i.fp, D ≤ x
  dis : ∀ (a b : Nat) (i j : It), L[a]? = some i → L[b]? = some j → a ≠ b → ∀ x ∈ i.fp, x ∉ j.fp
section
variable {D : Nat} {W0 w w' : World} {L : List It}
theorem Own.get (h : Own D W0 L w) (a : Nat) {i : It} (hi : L[a]? = some i) : i.holds D w := (h.at_ a i hi).1
theorem Own.heap (h : Own D W0 L w) (a : Nat) {b : Nat} {o : Obj} (hi : L[a]? = some (.blk b o)) : w.heap[b]? = some o := (h.at_ a _ hi).1
theorem Own.owns (h : Own D W0 L w) (a : Nat) {e : TypeId} {sz : Nat} {A : Option Addr} {n c : Nat} {xs : List Value} {q : List Nat} (hi : L[a]? = some (.own e sz A n c xs q)) : OwnS w e sz A n c xs q := (h.at_ a _ hi).1
theorem Own.nxt (h : Own D W0 L w) (a : Nat) {ib lb : Nat} (hi : L[a]? = some (.nx ib lb)) : NxS D w ib lb := (h.at_ a _ hi).1
theorem Own.ge (h : Own D W0 L w) (a : Nat) {i : It} (hi : L[a]? = some i) {x : Nat} (hx : x ∈ i.fp) : D ≤ x := (h.at_ a i hi).2 x hx
theorem Own.lt (h : Own D W0 L w) (a : Nat) {i : It} (hi : L[a]? = some i) {x : Nat} (hx : x ∈ i.fp) : x < w.heap.size := It.lt (h.get a hi) x hx
theorem Own.ne (h : Own D W0 L w) (a b : Nat) {i j : It} (hi : L[a]? = some i) (hj : L[b]? = some j) (hab : a ≠ b) {x y : Nat} (hx : x ∈ i.fp) (hy : y ∈ j.fp) : x ≠ y := fun e => h.dis a b i j hi hj hab x hx (e ▸ hy)
theorem Own.start (w : World) : Own w.heap.size w [] w := ⟨Below.refl _ _, Nat.le_refl _, by simp, by simp⟩
theorem Own.updG (h : Own D W0 L w) (L' : List It) (c : Nat → Prop) {S : List Nat} (hk : Keep S w w') (hS : ∀ x ∈ S, (∃ a i, c a ∧ L[a]? = some i ∧ x ∈ i.fp) ∨ w.heap.size ≤ x)
    (hun : ∀ a j, L'[a]? = some j → c a ∨ L[a]? = some j) (hch : ∀ a j, L'[a]? = some j → c a → j.holds D w' ∧ ∀ x ∈ j.fp, (∃ i, L[a]? = some i ∧ x ∈ i.fp) ∨ w.heap.size ≤ x)
    (hfd : ∀ a b i j, L'[a]? = some i → L'[b]? = some j → a ≠ b → c a → c b → ∀ x ∈ i.fp, x ∈ j.fp → w.heap.size ≤ x → False) : Own D W0 L' w' := by
  have hSD : ∀ x ∈ S, D ≤ x := fun x hx => by
    rcases hS x hx with ⟨a, i, _, h2, h3⟩ | h1
    · exact h.ge a h2 h3
    · have := h.lo; omega
  have key : ∀ a j, L'[a]? = some j → ∀ x ∈ j.fp, (∃ i, L[a]? = some i ∧ x ∈ i.fp) ∨ (c a ∧ w.heap.size ≤ x) := fun a j hj x hx => by
    rcases hun a j hj with h1 | h1
    · rcases (hch a j hj h1).2 x hx with e | e
      · exact .inl e
      · exact .inr ⟨h1, e⟩
    · exact .inl ⟨j, h1, hx⟩
  refine ⟨h.bel.trans (hk.below h.lo hSD), Nat.le_trans h.lo hk.size, fun a j hj => ⟨?_, fun x hx => ?_⟩, fun a b i j hi hj hab x hx hy => ?_⟩
  · by_cases hc : c a
    · exact (hch a j hj hc).1
    · have h1 : L[a]? = some j := (hun a j hj).resolve_left hc;refine It.keep (h.get a h1) hk (fun x hx hm => ?_) hSD;rcases hS x hm with ⟨b, i, h2, h3, h4⟩ | h2
      · exact h.dis a b j i h1 h3 (fun e => hc (e ▸ h2)) x hx h4
      · have := h.lt a h1 hx; omega
  · rcases key a j hj x hx with ⟨i, h1, h2⟩ | ⟨_, h2⟩
    · exact h.ge a h1 h2
    · have := h.lo; omega
  · rcases key a i hi x hx with ⟨i', h1, h2⟩ | ⟨h1, h2⟩
    · rcases key b j hj x hy with ⟨j', h3, h4⟩ | ⟨h3, h4⟩
      · exact h.dis a b i' j' h1 h3 hab x h2 h4
      · have := h.lt a h1 h2; omega
    · rcases key b j hj x hy with ⟨j', h3, h4⟩ | ⟨h3, h4⟩
      · have := h.lt b h3 h4; omega
      · exact hfd a b i j hi hj hab h1 h3 x hx hy h2
theorem Own.updF (h : Own D W0 L w) (L' : List It) (c : Nat → Prop) (f : Nat) {S : List Nat} (hk : Keep S w w') (hS : ∀ x ∈ S, (∃ a i, c a ∧ L[a]? = some i ∧ x ∈ i.fp) ∨ w.heap.size ≤ x)
    (hun : ∀ a j, L'[a]? = some j → c a ∨ L[a]? = some j) (hch : ∀ a j, L'[a]? = some j → c a → j.holds D w' ∧ ∀ x ∈ j.fp, (∃ i, L[a]? = some i ∧ x ∈ i.fp) ∨ (a = f ∧ w.heap.size ≤ x)) : Own D W0 L' w' := by
  refine h.updG L' c hk hS hun (fun a j hj hc => ⟨(hch a j hj hc).1, fun x hx => ?_⟩) (fun a b i j hi hj hab ha hb x hx hy hz => ?_)
  · rcases (hch a j hj hc).2 x hx with e | e
    · exact .inl e
    · exact .inr e.2
  · have h1 : a = f := by
      rcases (hch a i hi ha).2 x hx with ⟨i', e1, e2⟩ | e
      · have := h.lt a e1 e2; omega
      · exact e.1
    have h2 : b = f := by
      rcases (hch b j hj hb).2 x hy with ⟨i', e1, e2⟩ | e
      · have := h.lt b e1 e2; omega
      · exact e.1
    omega
theorem Own.below (h : Own D W0 L w) (hb : Below w.heap.size w w') : Own D W0 L w' :=
  h.updF L (fun _ => False) 0 (S := []) (Keep.of_below hb) (by simp) (fun a j hj => .inr hj) (fun _ _ _ h => h.elim)
theorem Own.upd (h : Own D W0 L w) (k : Nat) {i i' : It} (hi : L[k]? = some i) (hk : Keep i.fp w w') (hh : i'.holds D w') (hf : ∀ x ∈ i'.fp, x ∈ i.fp ∨ w.heap.size ≤ x) : Own D W0 (L.set k i') w' := by
  refine h.updF _ (fun a => a = k) k hk (fun x hx => .inl ⟨k, i, rfl, hi, hx⟩) (fun a j hj => ?_) (fun a j hj hc => ?_)
  · rw [List.getElem?_set] at hj;by_cases e : k = a
    · exact .inl e.symm
    · rw [if_neg e] at hj; exact .inr hj
  · subst hc;have hlt : a < L.length := (List.getElem?_eq_some_iff.1 hi).1;rw [List.getElem?_set, if_pos rfl, if_pos hlt] at hj;injection hj with hj
    subst hj;exact ⟨hh, fun x hx => by rcases hf x hx with e | e; exact .inl ⟨i, hi, e⟩; exact .inr ⟨rfl, e⟩⟩
theorem Own.set (h : Own D W0 L w) (k : Nat) {b : Nat} {o o' : Obj} (hi : L[k]? = some (.blk b o)) (hk : Keep [b] w w') (hh : w'.heap[b]? = some o') : Own D W0 (L.set k (.blk b o')) w' :=
  h.upd k hi hk hh (fun x hx => .inl hx)
theorem Own.next (h : Own D W0 L w) (k : Nat) {ib lb : Nat} (hi : L[k]? = some (.nx ib lb)) (hn : NxS D w' ib lb) (hk : Keep [ib] w w') : Own D W0 L w' := by
  have h1 := h.upd k hi (hk.mono (S' := [ib, lb]) (fun x hx => .inl (by simp at hx; simp [hx]))) (i' := .nx ib lb) hn (fun x hx => .inl hx);have e : L.set k (.nx ib lb) = L := by
    have hlt : k < L.length := (List.getElem?_eq_some_iff.1 hi).1;apply List.ext_getElem?;intro a;rw [List.getElem?_set];by_cases e : k = a
    · subst e; rw [if_pos rfl, if_pos hlt, hi]
    · rw [if_neg e]
  rwa [e] at h1
theorem Own.new (h : Own D W0 L w) {i : It} (hb : Below w.heap.size w w') (hh : i.holds D w') (hf : ∀ x ∈ i.fp, w.heap.size ≤ x) : Own D W0 (L ++ [i]) w' := by
  have h' := h.below hb;have hget : ∀ {a : Nat} {j : It}, (L ++ [i])[a]? = some j → L[a]? = some j ∨ (a = L.length ∧ j = i) := fun {a j} hj => by
    rw [List.getElem?_append] at hj;split at hj
    · exact .inl hj
    · rename_i hl
      have : a - L.length = 0 := by
        rcases Nat.lt_or_ge 0 (a - L.length) with e | e
        · rw [List.getElem?_eq_none (by simp; omega)] at hj; cases hj
        · omega
      rw [this] at hj;injection hj with hj
      exact .inr ⟨by omega, hj.symm⟩
  refine ⟨h'.bel, h'.lo, fun a j hj => ?_, fun a b x y hx hy hab z hz hz' => ?_⟩
  · rcases hget hj with e | ⟨_, rfl⟩
    · exact h'.at_ a j e
    · exact ⟨hh, fun x hx => by have := hf x hx; have := h.lo; omega⟩
  · rcases hget hx with e1 | ⟨e1, rfl⟩
    · rcases hget hy with e2 | ⟨e2, rfl⟩
      · exact h.dis a b x y e1 e2 hab z hz hz'
      · have := h.lt a e1 hz; have := hf z hz'; omega
    · rcases hget hy with e2 | ⟨e2, rfl⟩
      · have := h.lt b e2 hz'; have := hf z hz; omega
      · omega
theorem Own.add (h : Own D W0 L w) {i : It} (hh : i.holds D w) (hD : ∀ x ∈ i.fp, D ≤ x) (hd : ∀ j ∈ L, ∀ x ∈ i.fp, x ∉ j.fp) : Own D W0 (L ++ [i]) w := by
  have hget : ∀ {a : Nat} {j : It}, (L ++ [i])[a]? = some j → L[a]? = some j ∨ (a = L.length ∧ j = i) := fun {a j} hj => by
    rw [List.getElem?_append] at hj;split at hj
    · exact .inl hj
    · rename_i hl
      have h2 := (List.getElem?_eq_some_iff.1 hj).1;simp at h2;have : a - L.length = 0 := by omega
      rw [this] at hj;injection hj with hj
      exact .inr ⟨by omega, hj.symm⟩
  refine ⟨h.bel, h.lo, fun a j hj => ?_, fun a b x y hx hy hab z hz hz' => ?_⟩
  · rcases hget hj with e | ⟨_, rfl⟩
    · exact h.at_ a j e
    · exact ⟨hh, hD⟩
  · rcases hget hx with e1 | ⟨e1, rfl⟩
    · rcases hget hy with e2 | ⟨e2, rfl⟩
      · exact h.dis a b x y e1 e2 hab z hz hz'
      · exact hd x (List.mem_of_getElem? e1) z hz' hz
    · rcases hget hy with e2 | ⟨e2, rfl⟩
      · exact hd y (List.mem_of_getElem? e2) z hz hz'
      · omega
theorem Own.nil (hD : D ≤ w.heap.size) : Own D w [] w := ⟨Below.refl _ _, hD, by simp, by simp⟩
theorem Own.keepAny (h : Own D W0 L w) {S : List Nat} (hk : Keep S w w') (hS : ∀ x ∈ S, (∃ a : Nat, L[a]? = some (It.any x)) ∨ w.heap.size ≤ x) : Own D W0 L w' := by
  refine h.updG L (fun a : Nat => ∃ x, L[a]? = some (It.any x)) hk (fun x hx => ?_) (fun a j hj => .inr hj) (fun a j hj hc => ?_) (fun a b i j hi hj hab ha hb x hx hy hz => ?_)
  · rcases hS x hx with ⟨a, e⟩ | e
    · exact .inl ⟨a, _, ⟨x, e⟩, e, by simp [It.fp]⟩
    · exact .inr e
  · obtain ⟨x, e⟩ := hc;rw [hj] at e;injection e with e
    subst e;exact ⟨Nat.lt_of_lt_of_le (h.get a hj) hk.size, fun y hy => .inl ⟨_, hj, hy⟩⟩
  · exact h.dis a b i j hi hj hab x hx hy
theorem Own.nextNew (h : Own D W0 L w) (k : Nat) {ib lb : Nat} {i : It} (hi : L[k]? = some (.nx ib lb)) (hn : NxS D w' ib lb) (hk : Keep [ib] w w') (hh : i.holds D w') (hf : ∀ x ∈ i.fp, w.heap.size ≤ x) : Own D W0 (L ++ [i]) w' := by
  have hkl : k < L.length := (List.getElem?_eq_some_iff.1 hi).1;refine h.updF _ (fun a => a = k ∨ a = L.length) L.length hk (fun x hx => .inl ⟨k, _, .inl rfl, hi, by simp at hx; simp [It.fp, hx]⟩) (fun a j hj => ?_) (fun a j hj hc => ?_)
  · rw [List.getElem?_append] at hj;split at hj
    · exact .inr hj
    · refine .inl (.inr ?_);have h2 := (List.getElem?_eq_some_iff.1 hj).1;simp at h2;omega
  · rcases hc with rfl | rfl
    · rw [List.getElem?_append_left hkl, hi] at hj;injection hj with hj
      subst hj;exact ⟨hn, fun x hx => .inl ⟨_, hi, hx⟩⟩
    · rw [List.getElem?_append_right (Nat.le_refl _), Nat.sub_self] at hj;injection hj with hj
      subst hj;exact ⟨hh, fun x hx => .inr ⟨rfl, hf x hx⟩⟩
theorem Own.alloc (h : Own D W0 L w) (o : Obj) : Own D W0 (L ++ [.blk w.heap.size o]) (w.alloc o) :=
  h.new ((Below.refl _ _).alloc (Nat.le_refl _) _) (heap_alloc_new w o) (by simp [It.fp])
theorem Own.drew (h : Own D W0 L w) : Own D W0 L w.drew := h.updF L (fun _ => False) 0 (S := []) ((Keep.refl _ _).drew) (by simp) (fun a j hj => .inr hj) (fun _ _ _ h => h.elim)
theorem Own.take (h : Own D W0 L w) (n : Nat) : Own D W0 (L.take n) w := by
  have hg : ∀ {a : Nat} {j : It}, (L.take n)[a]? = some j → L[a]? = some j := fun {a j} hj => by
    rw [List.getElem?_take] at hj;split at hj
    · exact hj
    · cases hj
  exact ⟨h.bel, h.lo, fun a j hj => h.at_ a j (hg hj), fun a b i j hi hj => h.dis a b i j (hg hi) (hg hj)⟩
theorem Own.draws (h : Own D W0 L w) (kn : Nat) {ib lb : Nat} (hn : L[kn]? = some (.nx ib lb)) :
    ∃ A0 c0 l0 k0, DrawSt w ib lb A0 c0 l0 k0 ∧ Bytes l0 ∧ l0.length ≤ 9223372036854775806 ∧ ib ≠ lb ∧ (0 < l0.length → ∀ b off, A0 = some ⟨b, off, none⟩ → b < D) := by
  obtain ⟨A, c, l, k, h1, h2, h3, h4, h5, h6, h7⟩ := h.nxt kn hn;exact ⟨A, c, l, k, h1, h2, h3, h4, h7⟩
theorem Own.apOk (h : Own D W0 L w) (kn kb ko : Nat) {C : ApC} (hn : L[kn]? = some (.nx C.ib C.lb)) (hb : L[kb]? = some (.blk C.ob (.cells C.old C.t (0, 0)))) (ho : L[ko]? = some (.own C.e C.sz C.A C.k C.c C.xs C.q))
    (hnb : kn ≠ kb) (hno : kn ≠ ko) (hbo : kb ≠ ko) (hdr : DrawSt w C.ib C.lb C.A0 C.c0 C.l0 C.k0) (hby : Bytes C.l0) (hln : C.l0.length ≤ 9223372036854775806) (hne : C.ib ≠ C.lb) (hap : 0 < C.l0.length → ∀ b off, C.A0 = some ⟨b, off, none⟩ → b < D) : ApOk C w := by
  refine ⟨hdr, h.owns ko ho, h.heap kb hb, fun hm => h.dis kb ko _ _ hb ho hbo _ (by simp [It.fp]) hm, h.ne kb kn hb hn hnb.symm (by simp [It.fp]) (by simp [It.fp]), h.ne kb kn hb hn hnb.symm (by simp [It.fp]) (by simp [It.fp]),
    fun hm => h.dis kn ko _ _ hn ho hno C.ib (by simp [It.fp]) hm, fun hm => h.dis kn ko _ _ hn ho hno C.lb (by simp [It.fp]) hm, hne, fun h0 b off e => ?_, hby, hln⟩
  have hD := hap h0 b off e;have h1 := h.ge kn hn (x := C.ib) (by simp [It.fp]);have h2 := h.ge kb hb (x := C.ob) (by simp [It.fp]);exact ⟨by omega, by omega, fun hm => by have := h.ge ko ho (x := b) hm; omega⟩
theorem Own.apDone (h : Own D W0 L w) (kn kb ko : Nat) {C : ApC} (hn : L[kn]? = some (.nx C.ib C.lb)) (hb : L[kb]? = some (.blk C.ob (.cells C.old C.t (0, 0)))) (ho : L[ko]? = some (.own C.e C.sz C.A C.k C.c C.xs C.q))
    (hnb : kn ≠ kb) (hno : kn ≠ ko) (hbo : kb ≠ ko) (hap : 0 < C.l0.length → ∀ b off, C.A0 = some ⟨b, off, none⟩ → b < D) (O : ApOk C w) {opB opA opS : Nat} {cnt : (Nat → Bool) → Nat} {s : ApS} {l : Nat → Bool} (H : ApW C opB opA opS cnt w s l w') (hA : l opA = true) (hS : l opS = true) :
    Own D W0 ((L.set kb (.blk C.ob (.cells (C.new s.A s.c) C.t (0, 0)))).set ko (.own C.e C.sz s.A (C.k + 1) s.c (C.xs ++ C.ys) [s.g])) w' := by
  have hkb : kb < L.length := (List.getElem?_eq_some_iff.1 hb).1;have hko : ko < L.length := (List.getElem?_eq_some_iff.1 ho).1;obtain ⟨o1, o2⟩ := H.own1 hA;have hob := H.hob;rw [hS, if_pos rfl] at hob;have hnx : NxS D w' C.ib C.lb := ⟨C.A0, C.c0, C.l0, _, H.dr, O.byt, O.len, O.ne, h.ge kn hn (by simp [It.fp]), h.ge kn hn (by simp [It.fp]), hap⟩;have hget : ∀ {a : Nat} {j : It}, ((L.set kb (.blk C.ob (.cells (C.new s.A s.c) C.t (0, 0)))).set ko (.own C.e C.sz s.A (C.k + 1) s.c (C.xs ++ C.ys) [s.g]))[a]? = some j →
      (a = ko ∧ j = .own C.e C.sz s.A (C.k + 1) s.c (C.xs ++ C.ys) [s.g]) ∨ (a ≠ ko ∧ a = kb ∧ j = .blk C.ob (.cells (C.new s.A s.c) C.t (0, 0))) ∨ (a ≠ ko ∧ a ≠ kb ∧ L[a]? = some j) := fun {a j} hj => by
    rw [List.getElem?_set] at hj;by_cases e : ko = a
    · rw [if_pos e, if_pos (by simpa using hko)] at hj;injection hj with hj
      exact .inl ⟨e.symm, hj.symm⟩
    · rw [if_neg e, List.getElem?_set] at hj;by_cases e2 : kb = a
      · rw [if_pos e2, if_pos hkb] at hj;injection hj with hj
        exact .inr (.inl ⟨fun q => e q.symm, e2.symm, hj.symm⟩)
      · rw [if_neg e2] at hj;exact .inr (.inr ⟨fun q => e q.symm, fun q => e2 q.symm, hj⟩)
  refine h.updF _ (fun a => a = kn ∨ a = kb ∨ a = ko) ko H.kp (fun x hx => .inl ?_) (fun a j hj => ?_) (fun a j hj hc => ?_)
  · rcases List.mem_cons.1 hx with rfl | hx
    · exact ⟨kn, _, .inl rfl, hn, by simp [It.fp]⟩
    · rcases List.mem_cons.1 hx with rfl | hx
      · exact ⟨kb, _, .inr (.inl rfl), hb, by simp [It.fp]⟩
      · exact ⟨ko, _, .inr (.inr rfl), ho, hx⟩
  · rcases hget hj with ⟨e, _⟩ | ⟨_, e, _⟩ | ⟨_, _, e⟩
    · exact .inl (.inr (.inr e))
    · exact .inl (.inr (.inl e))
    · exact .inr e
  · rcases hget hj with ⟨e, rfl⟩ | ⟨_, e, rfl⟩ | ⟨e1, e2, e⟩
    · refine ⟨o1, fun x hx => ?_⟩;rw [List.mem_singleton.1 hx];rcases o2 with q | q
      · exact .inl ⟨.own C.e C.sz C.A C.k C.c C.xs C.q, by rw [e]; exact ho, q⟩
      · exact .inr ⟨e, q⟩
    · exact ⟨hob, fun x hx => .inl ⟨.blk C.ob (.cells C.old C.t (0, 0)), by rw [e]; exact hb, hx⟩⟩
    · rcases hc with rfl | rfl | rfl
      · rw [hn] at e;injection e with e
        subst e;exact ⟨hnx, fun x hx => .inl ⟨_, hn, hx⟩⟩
      · exact absurd rfl e2
      · exact absurd rfl e1
end
end Go.Proofs.Ythmldeningpjbaa
