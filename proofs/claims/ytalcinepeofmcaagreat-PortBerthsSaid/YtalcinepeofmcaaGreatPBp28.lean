import Derived.Test.YtalcinepeofmcaaGreatPBp27
import Derived.Test.YtalcinepeofmcaaGreatPBp21
import Derived.Test.YtalcinepeofmcaaGreatPBp22
import Derived.Test.YtalcinepeofmcaaGreatPBp24
import Derived.Test.YtalcinepeofmcaaGreatPBp25
import Derived.Test.YtalcinepeofmcaaGreatPBp26
import Derived.Test.YtalcinepeofmcaaGreatPBp7
set_option linter.unusedVariables false
set_option linter.unusedSimpArgs false
set_option maxRecDepth 100000
set_option maxHeartbeats 40000000
namespace Go.Proofs.YtalcinepeofmcaaGreat
open Go Go.RowKit Sp Pt
structure AwS (D b2 b4 b6 b7 pb lb : Nat) (x y : Value) (w : World) : Prop where
  M : ExM D b2 b4 b6 b7 w
  hp : w.heap[pb]? = some (.cells #[.slice (some ⟨b2, 0, none⟩) 1 1, x, .int .i64 3] 25 (0, 0))
  hl : w.heap[lb]? = some (.cells #[.int .i64 24, .slice (some ⟨b6, 0, none⟩) 2 2, y] 35 (0, 0))
theorem AwS.keep0 {D b2 b4 b6 b7 pb lb : Nat} {x y : Value} {w w' : World} (h : AwS D b2 b4 b6 b7 pb lb x y w) (hk : Keep [] w w') : AwS D b2 b4 b6 b7 pb lb x y w' :=
  ⟨h.M.keep hk (by simp), (hk.block _ (hL_ h.hp) (by simp)).trans h.hp, (hk.block _ (hL_ h.hl) (by simp)).trans h.hl⟩
theorem AwS.cells {D b2 b4 b6 b7 pb lb : Nat} {x y : Value} {w : World} (h : AwS D b2 b4 b6 b7 pb lb x y w) :
    w.cell? ⟨pb, 0, none⟩ = some (.slice (some ⟨b2, 0, none⟩) 1 1) ∧ w.cell? ⟨pb, 1, none⟩ = some x ∧ w.cell? ⟨pb, 2, none⟩ = some (.int .i64 3) ∧ w.cell? ⟨lb, 0, none⟩ = some (.int .i64 24) ∧ w.cell? ⟨lb, 1, none⟩ = some (.slice (some ⟨b6, 0, none⟩) 2 2) ∧ w.cell? ⟨lb, 2, none⟩ = some y ∧ pb < w.heap.size ∧ lb < w.heap.size :=
  ⟨(cOH h.hp 0).trans rfl, (cOH h.hp 1).trans rfl, (cOH h.hp 2).trans rfl, (cOH h.hl 0).trans rfl, (cOH h.hl 1).trans rfl, (cOH h.hl 2).trans rfl, hL_ h.hp, hL_ h.hl⟩
theorem rd_litP (w : World) (size n : Nat) (cs : List Value) (t : TypeId) (h : cs.length = n * size) : Rd (w.alloc (.cells cs.toArray t)) size (some ⟨w.heap.size, 0, none⟩) n cs :=
  ⟨h, fun _ => ⟨_, 0, rfl, by simp, fun j u hu => by rw [Nat.zero_add, World.cell?_alloc_new]; simpa using hu⟩⟩
theorem awakeP_any (w : World) : Calls Tryz.prog 5 #[] w fun e w' => e = .returned (.bool true) ∧ Below w.heap.size w w' := by
  go_enter Tryz.func5, Tryz.ntmps5
  go_upto_region 2 with (go_at_call 27; refine (exa_ex w).mono ?_; rintro e w1 ⟨b2, b3, b4, b6, b7, rfl, M1, hb4, hpa, hord, bw⟩; have H1 := Lib.hid (And.intro M1 bw); have HP := Lib.hid (And.intro hb4 hpa); clear M1 bw hb4 hpa)
  obtain ⟨W2, hW2⟩ : ∃ W, W = (w1.alloc (.cells #[.slice (some ⟨b2, 0, none⟩) 1 1, .slice (some ⟨b4, 0, none⟩) 1 1, .int .i64 3] 25)).alloc (.cells #[.int .i64 24, .slice (some ⟨b6, 0, none⟩) 2 2, .slice (some ⟨b7, 0, none⟩) 1 1] 35) := ⟨_, rfl⟩;obtain ⟨D, hD⟩ : ∃ D, D = w1.heap.size := ⟨_, rfl⟩;obtain ⟨lb, hlb⟩ : ∃ b, b = w1.heap.size + 1 := ⟨_, rfl⟩;obtain ⟨pb, hpb⟩ : ∃ b, b = w1.heap.size := ⟨_, rfl⟩;have k2 : Keep [] w1 W2 := by rw [hW2]; exact ((Keep.refl _ _).alloc _).alloc _
  have S2 : AwS D b2 b4 b6 b7 pb lb (.slice (some ⟨b4, 0, none⟩) 1 1) (.slice (some ⟨b7, 0, none⟩) 1 1) W2 := by
    refine ⟨by rw [hD]; exact H1.out.1.keep k2 (by simp), by rw [hW2, hpb]; exact hA_ (heap_alloc_new _ _) _, ?_⟩;rw [hW2, hlb];have := heap_alloc_new (w1.alloc (.cells #[.slice (some ⟨b2, 0, none⟩) 1 1, .slice (some ⟨b4, 0, none⟩) 1 1, .int .i64 3] 25)) (.cells #[.int .i64 24, .slice (some ⟨b6, 0, none⟩) 2 2, .slice (some ⟨b7, 0, none⟩) 1 1] 35)
    rwa [World.size_alloc] at this
  have hb2 : Below w.heap.size w W2 := H1.out.2.trans (k2.below H1.out.2.size (by simp));rw [← hW2, ← hlb, ← hpb];have hpl : pb < lb ∧ D ≤ pb := by omega
  have hk2' := k2;have hD' := hD;clear hW2 hD k2;have kX : Keep [] W2 ((W2.alloc (.cells #[.int .i64 30] 3)).alloc (.cells #[.bool false] 4)) := ((Keep.refl _ _).alloc _).alloc _;have kr := run_ex (S2.keep0 kX).M W2.heap.size (W2.heap.size + 1) (hA_ (heap_alloc_new _ _) _) (by have := heap_alloc_new (W2.alloc (.cells #[.int .i64 30] 3)) (.cells #[.bool false] 4); rwa [World.size_alloc] at this);obtain ⟨c0, c1, c2, c3, c4, c5, z1, z2⟩ := S2.cells;have H2 := Lib.hid (And.intro S2 (And.intro hb2 kr));have HP2 := Lib.hid (And.intro ((hk2'.block _ (hL_ HP.out.1) (by simp)).trans HP.out.1) (show PathB D W2 (some ⟨b3, 0, none⟩) 1 [0] by rw [hD']; exact HP.out.2.below (hk2'.below (Nat.le_refl _) (by simp))));have hbw : w.heap.size ≤ D ∧ w.heap.size ≤ W2.heap.size ∧ w.heap.size ≤ pb := ⟨by have := H1.out.2.size; omega, hb2.size, by have := H1.out.2.size; omega⟩;have hb4D : b4 < D := by rw [hD']; exact hL_ HP.out.1
  clear S2 hb2 kr kX hlb hpb H1 HP hk2' hD';go_upto_region 3 with (go_at_call 28; refine H2.out.2.2.mono ?_; rintro e w3 ⟨A3, d3, B3, f3, rfl, o3, b3', fr3⟩; have H3 := Lib.hid (And.intro o3 b3'); have HF3 := Lib.hid fr3; clear o3 b3' fr3)
  obtain ⟨W3, hW3⟩ : ∃ W, W = w3.alloc (.cells #[.slice A3 1 d3, .slice B3 1 f3] 39) := ⟨_, rfl⟩;obtain ⟨sb, hsb⟩ : ∃ b, b = w3.heap.size := ⟨_, rfl⟩;have k3 : Keep [] W2 W3 := by rw [hW3]; exact (((((Keep.refl _ _).alloc _).alloc _).trans (Keep.of_below (S := []) H3.out.2) (by simp)).alloc _)
  have g3 : W3.heap[sb]? = some (.cells #[.slice A3 1 d3, .slice B3 1 f3] 39 (0, 0)) := by rw [hW3, hsb]; exact heap_alloc_new _ _
  have R3 : Rd W3 1 A3 1 (ints [24]) := by rw [hW3]; exact H3.out.1.below ((Below.refl _ _).alloc (Nat.le_refl _) _)
  have S3 := H2.out.1.keep0 k3;have kf := fold_ex S3.M;have hge : w.heap.size ≤ W3.heap.size := by have := k3.size; omega
  rw [← hW3, ← hsb];clear hW3 hsb c0 c1 c2 c3 c4 c5 z1 z2;obtain ⟨c0, c1, c2, c3, c4, c5, z1, z2⟩ := S3.cells;have H4 := Lib.hid (And.intro k3 (And.intro g3 (And.intro R3 (And.intro S3 kf))));clear k3 g3 R3 S3 kf;go_upto_region 4 with (go_at_call 29; refine H4.out.2.2.2.2.mono ?_; rintro e w4 ⟨rfl, b4'⟩; have HF := Lib.hid b4'; clear b4')
  obtain ⟨W4, hW4⟩ : ∃ W, W = w4.alloc (.cells #[.int .i64 (-6), .int .i64 15, .int .i64 58] 90) := ⟨_, rfl⟩;obtain ⟨mb, hmb⟩ : ∃ b, b = w4.heap.size := ⟨_, rfl⟩;have k4 : Keep [] W3 W4 := by rw [hW4]; exact (Keep.of_below (S := []) HF.out).alloc _
  have g4 : W4.heap[mb]? = some (.cells #[.int .i64 (-6), .int .i64 15, .int .i64 58] 90 (0, 0)) := by rw [hW4, hmb]; exact heap_alloc_new _ _
  have S4 := H4.out.2.2.2.1.keep0 k4;have ks := stays_ex S4.M;rw [← hW4, ← hmb];clear hW4 hmb c0 c1 c2 c3 c4 c5 z1 z2;obtain ⟨c0, c1, c2, c3, c4, c5, z1, z2⟩ := S4.cells;have H5 := Lib.hid (And.intro k4 (And.intro g4 (And.intro S4 ks)));clear k4 g4 S4 ks;go_upto_region 5 with (go_at_call 30; refine H5.out.2.2.2.mono ?_; rintro e w5 ⟨A5, d5, rfl, o5, b5, fr5⟩; have HS := Lib.hid (And.intro o5 b5); have HF5 := Lib.hid fr5; clear o5 b5 fr5)
  have k5 : Keep [] W4 w5 := Keep.of_below HS.out.2;have S5 := H5.out.2.2.1.keep0 k5;clear c0 c1 c2 c3 c4 c5 z1 z2;obtain ⟨c0, c1, c2, c3, c4, c5, z1, z2⟩ := S5.cells;have f5 := fOH S5.hl 2;have H6 := Lib.hid (And.intro k5 S5);clear k5 S5;go_upto_region 6 with fail
  obtain ⟨W6, hW6⟩ : ∃ W, W = w5.setCell ⟨lb, 2, none⟩ (.slice none 0 0) := ⟨_, rfl⟩;have k6 : Keep [lb] w5 W6 := by rw [hW6]; exact (Keep.refl _ _).setCell (.inl (by simp)) _
  have S6 : AwS D b2 b4 b6 b7 pb lb (.slice (some ⟨b4, 0, none⟩) 1 1) (.slice none 0 0) W6 := by
    have S5 := H6.out.2;rw [hW6] at k6 ⊢;exact ⟨S5.M.keep k6 (by simp; omega), hSN S5.hp (by simp only; omega) _, hS_ S5.hl 2 _⟩
  have kw := worn_ex S6.M;rw [← hW6];clear hW6 c0 c1 c2 c3 c4 c5 z1 z2 f5;obtain ⟨c0, c1, c2, c3, c4, c5, z1, z2⟩ := S6.cells;have H7 := Lib.hid (And.intro k6 (And.intro S6 kw));clear k6 S6 kw;go_upto_region 7 with (go_at_call 31; refine H7.out.2.2.mono ?_; rintro e w7 ⟨rfl, b7'⟩; have HW := Lib.hid b7'; clear b7')
  have S7 := H7.out.2.1.keep0 (Keep.of_below HW.out);have kA : Keep [lb] W2 w7 := (((H4.out.1.trans H5.out.1 (by simp)).trans H6.out.1 (by simp)).mono (S' := [lb]) (by simp)).trans (H7.out.1.trans (Keep.of_below (S := []) HW.out) (by simp)) (fun x hx => .inl hx);have hb7 : w7.heap[b4]? = some (.cells #[.int .i64 900, .slice (some ⟨b3, 0, none⟩) 1 1] 83 (0, 0)) := (kA.block _ (hL_ HP2.out.1) (by simp; omega)).trans HP2.out.1;have hp7 : PathB D w7 (some ⟨b3, 0, none⟩) 1 [0] := HP2.out.2.below (kA.below H2.out.1.M.hD (by simp; omega));clear c0 c1 c2 c3 c4 c5 z1 z2;obtain ⟨c0, c1, c2, _, _, _, z1, _⟩ := S7.cells;obtain ⟨i0, hi, hz0, hz1, hz2⟩ := info_parts infoBrt;obtain ⟨X, hX⟩ : ∃ X, X = (w7.alloc (.cells #[.int .i64 0] 3)).alloc (.cells #[.int .i64 700, .slice (some ⟨w7.heap.size, 0, none⟩) 1 1] 83) := ⟨_, rfl⟩;have kX : Keep [] w7 X := by rw [hX]; exact ((Keep.refl _ _).alloc _).alloc _
  have oX : OwnS X 83 2 (some ⟨b4, 0, none⟩) 1 1 [.int .i64 900, .slice (some ⟨b3, 0, none⟩) 1 1] [b4] :=
    ⟨rfl, .inr ⟨b4, _, rfl, rfl, (kX.block _ (hL_ hb7) (by simp)).trans hb7, by decide, by decide, rfl, fun j u hu => by simpa using hu⟩⟩
  have rX : Rd X 2 (some ⟨w7.heap.size + 1, 0, none⟩) 1 [.int .i64 700, .slice (some ⟨w7.heap.size, 0, none⟩) 1 1] := by
    have := rd_litP (w7.alloc (.cells #[.int .i64 0] 3)) 2 1 [.int .i64 700, .slice (some ⟨w7.heap.size, 0, none⟩) 1 1] 83 rfl;rw [World.size_alloc] at this;rw [hX]; exact this
  have H8 := Lib.hid (And.intro kX (And.intro oX (And.intro rX (And.intro S7 (And.intro kA (And.intro hb7 hp7))))));clear kX oX rX S7 kA hb7 hp7
  go_upto_region 8 with (at_builtin
                         refine wpList_append_M rfl (.tmp 51) (.tmp 54) 23 rfl i0 _ 32 Tryz.underlying23 hi hz0 hz1 hz2 rfl (A := some ⟨b4, 0, none⟩) (n := 1) (c := 1) (B := some ⟨w7.heap.size + 1, 0, none⟩) (m := 1) (d := 1) (xs := [.int .i64 900, .slice (some ⟨b3, 0, none⟩) 1 1]) (fp := [b4]) (ys := [.int .i64 700, .slice (some ⟨w7.heap.size, 0, none⟩) 1 1]) (by simp [Act.eval]) (by simp [Act.eval]) (by rw [← hX]; exact H8.out.2.1) (by rw [← hX]; exact H8.out.2.2.1) (by intro u hu; simp at hu; rcases hu with rfl | rfl <;> rfl) (by omega) (by omega) ?_;intro A' c' w8 fp' h1 h2 h3;rw [← hX] at h2 h3;have S8 := H8.out.2.2.2.1.keep0 H8.out.1;have hp8 := (h3.block _ (hL_ S8.hp) (by simp; omega)).trans S8.hp;have p0 := (cOH hp8 0).trans rfl;have p1 := (cOH hp8 1).trans rfl;have p2 := (cOH hp8 2).trans rfl;have f8 := fOH hp8 1;have z8 := hL_ hp8;have HR := Lib.hid hp8;clear hp8 S8;have HQ := Lib.hid (And.intro h1 (And.intro h2 h3));clear h1 h2 h3)
  obtain ⟨oQ, iQ, kQ⟩ := HQ.out;obtain ⟨g, cur, rfl, rfl, hg, hc1, hc2, hc3, hc4⟩ := oQ.2.resolve_left (fun h => by cases h.2.1);obtain ⟨W9, hW9⟩ : ∃ W, W = w8.setCell ⟨pb, 1, none⟩ (.slice (some ⟨g, 0, none⟩) 2 c') := ⟨_, rfl⟩;have hgp : g ≠ pb := ne_ty hg HR.out (by decide);have hk9 : Keep [b4, pb] X W9 := by rw [hW9]; exact (kQ.mono (by simp)).setCell (.inl (by simp)) _
  have hp9 : W9.heap[pb]? = some (.cells #[.slice (some ⟨b2, 0, none⟩) 1 1, .slice (some ⟨g, 0, none⟩) 2 c', .int .i64 3] 25 (0, 0)) := by rw [hW9]; exact hS_ HR.out 1 _
  have hg9 : W9.heap[g]? = some (.cells cur 83 (0, 0)) := by rw [hW9]; exact hSN hg hgp _
  have q0 : W9.cell? ⟨pb, 0, none⟩ = some (.slice (some ⟨b2, 0, none⟩) 1 1) := (cOH hp9 0).trans rfl;have q1 : W9.cell? ⟨pb, 1, none⟩ = some (.slice (some ⟨g, 0, none⟩) 2 c') := (cOH hp9 1).trans rfl;have q2 : W9.cell? ⟨pb, 2, none⟩ = some (.int .i64 3) := (cOH hp9 2).trans rfl;have z9 := hL_ hp9;rw [← hW9];have hpn : X.heap[w7.heap.size]? = some (.cells #[.int .i64 0] 3 (0, 0)) := by rw [hX]; exact hA_ (heap_alloc_new _ _) _
  have hs7 := H8.out.2.2.2.1.M.hD;have hpb7 := hL_ H8.out.2.2.2.1.hp;have hXs : X.heap.size = w7.heap.size + 2 := by rw [hX]; simp
  obtain ⟨Y, hY⟩ : ∃ Y, Y = W9.alloc (.cells #[.int .i64 0, .int .i64 10, .int .i64 8, .int .i64 600, .int .i64 1, .int .i64 4, .int .i64 5, .int .i64 800, .int .i64 2, .int .i64 20, .int .i64 3, .int .i64 650] 44) := ⟨_, rfl⟩;have kY : Keep [b4, pb] X Y := by rw [hY]; exact hk9.alloc _
  have kY7 : Keep [b4, pb] w7 Y := (H8.out.1.mono (S' := [b4, pb]) (by simp)).trans kY (fun x hx => .inl hx);have hvY : Y.heap[W9.heap.size]? = some (.cells #[.int .i64 0, .int .i64 10, .int .i64 8, .int .i64 600, .int .i64 1, .int .i64 4, .int .i64 5, .int .i64 800, .int .i64 2, .int .i64 20, .int .i64 3, .int .i64 650] 44 (0, 0)) := by rw [hY]; exact heap_alloc_new _ _
  have hgY : Y.heap[g]? = some (.cells cur 83 (0, 0)) := by rw [hY]; exact hA_ hg9 _
  have hnY : Y.heap[w7.heap.size]? = some (.cells #[.int .i64 0] 3 (0, 0)) := (kY.block _ (hL_ hpn) (by simp; omega)).trans hpn;have hch : RdB Y.heap.size Y 3 (some ⟨b2, 0, none⟩) 1 (chcs exPrt.chs) := RdB.of (kY7.rd (H8.out.2.2.2.1.M.PB.chs.rd hs7) (fun b off e => by injection e with e; injection e with e _ _; simp; omega)) (Nat.le_refl _);have hpt : PathB Y.heap.size Y (some ⟨b3, 0, none⟩) 1 [0] := ⟨RdB.of (kY7.rd (H8.out.2.2.2.2.2.2.1.rd hs7) (fun b off e => by injection e with e; injection e with e _ _; simp; omega)) (Nat.le_refl _), H8.out.2.2.2.2.2.2.2⟩;have hpt2 : PathB Y.heap.size Y (some ⟨w7.heap.size, 0, none⟩) 1 [0] := ⟨⟨rfl, fun _ => ⟨_, 0, rfl, hL_ hnY, fun j u hu => (cOH hnY _).trans (by simpa [ints] using hu)⟩⟩, by simp, by decide, by simp⟩;have PB2 : PrtB Y.heap.size Y (some ⟨b2, 0, none⟩) 1 (some ⟨g, 0, none⟩) c' exPrt2 := by
    refine ⟨hch, ?_, ⟨by decide, by decide, by simp⟩, ⟨hc1, hc2, by simp⟩⟩;intro k hk;have hk2 : k = 0 ∨ k = 1 := by simp [exPrt2] at hk; omega
    rcases hk2 with rfl | rfl
    · exact ⟨g, 0, _, _, rfl, hL_ hgY, (cOH hgY _).trans (hc4 0 _ rfl), (cOH hgY _).trans (hc4 1 _ rfl), hpt⟩
    · exact ⟨g, 0, _, _, rfl, hL_ hgY, (cOH hgY _).trans (hc4 2 _ rfl), (cOH hgY _).trans (hc4 3 _ rfl), hpt2⟩
  have kb := best_ex PB2 (Nat.le_refl _) hvY (hL_ hvY);have HY := Lib.hid (And.intro kY7 (And.intro kb hY));clear hW9 hp9 hgp hs7 hpb7 hXs kY kY7 hvY hgY hnY hch hpt hpt2 PB2 kb hY hk9 hg9 hpn hg hc1 hc2 hc3 hc4 p0 p1 p2 f8 z8 oQ iQ kQ hX c0 c1 c2 z1;go_upto_region 9 with (rw [← HY.out.2.2]; go_at_call 14; refine HY.out.2.1.mono ?_; rintro e w10 ⟨A10, d10, rfl, o10, b10⟩; have HB := Lib.hid (And.intro o10 b10); clear o10 b10)
  go_upto_region 11 with fail
  have kZ : Keep [b4, pb] w7 w10 := HY.out.1.trans (Keep.of_below (S := []) HB.out.2) (by simp);have kA5 : Keep [lb] w5 w7 := H7.out.1.trans (Keep.of_below (S := []) HW.out) (by simp);have kA4 : Keep [lb] W4 w7 := (H6.out.1.mono (S' := [lb]) (by simp)).trans kA5 (fun x hx => .inl hx);have kA3 : Keep [lb] W3 w7 := (H5.out.1.mono (S' := [lb]) (by simp)).trans kA4 (fun x hx => .inl hx);have gs7 := (kA3.block _ (hL_ H4.out.2.1) (by simp; exact ne_ty H4.out.2.1 H4.out.2.2.2.1.hl (by decide))).trans H4.out.2.1;have gs := (kZ.block _ (hL_ gs7) (by simp; exact ⟨ne_ty gs7 H8.out.2.2.2.2.2.1 (by decide), ne_ty gs7 H8.out.2.2.2.1.hp (by decide)⟩)).trans gs7;have gm7 := (kA4.block _ (hL_ H5.out.2.1) (by simp; exact ne_ty H5.out.2.1 H5.out.2.2.1.hl (by decide))).trans H5.out.2.1;have gm := (kZ.block _ (hL_ gm7) (by simp; exact ⟨ne_ty gm7 H8.out.2.2.2.2.2.1 (by decide), ne_ty gm7 H8.out.2.2.2.1.hp (by decide)⟩)).trans gm7;have u1 := hL_ H2.out.1.hl;have u2 := hL_ H2.out.1.hp;have u3 := H2.out.1.M.hD;have u4 := H4.out.1.size;have u5 := H5.out.1.size;have R3 : Rd w10 1 A3 1 (ints [24]) := kZ.rd (kA3.rd H4.out.2.2.1 (fun b off e => by have := HF3.out b off e; simp at this ⊢; omega)) (fun b off e => by have := HF3.out b off e; simp at this ⊢; omega);have R5 : Rd w10 1 A5 1 (ints [58]) := kZ.rd (kA5.rd HS.out.1 (fun b off e => by have := HF5.out b off e; simp at this ⊢; omega)) (fun b off e => by have := HF5.out b off e; simp at this ⊢; omega);have heq : ∀ wx, (binOp .eql 90 (.agg #[.int .i64 (-6), .int .i64 15, .int .i64 58]) (.agg #[.int .i64 (-6), .int .i64 15, .int .i64 58])).run Tryz.prog wx = .ok (.bool true) wx := fun wx => by
    have u3 := Tryz.underlying3;have a3 := Tryz.isAgg3;have z3 := Tryz.sizeOf3;have hS : Tryz.prog.underlying 90 = some (.struct (Tryz.prog.fieldsOf 90)) := by kernel_rfl
    have hp : Tryz.prog.stoodInHeld 90 = false := by kernel_rfl
    rw [run_eql_struct, show (10000 : Nat) = 9999 + 1 from rfl, run_equalIn_agg wx 9999 90 _ _ hS hp];simp only [Program.fieldsOf, Tryz.underlying90];go_simp
  have bA : ∀ (wx : World) (o : Obj), Below wx.heap.size wx (wx.alloc o) := fun wx o => (Below.refl _ _).alloc (Nat.le_refl _) _;have E1 := eqIntsP_same A3 (some ⟨w10.heap.size, 0, none⟩) d3 1 1 [24] (w10.alloc (.cells #[.int .i64 24] 3)) rfl (by decide) (R3.below (bA _ _)) (rd_litP w10 1 1 (ints [24]) 3 rfl);have E2 := fun (wx : World) (b : Below w10.heap.size w10 wx) => eqIntsP_same A5 (some ⟨wx.heap.size, 0, none⟩) d5 1 1 [58] (wx.alloc (.cells #[.int .i64 58] 3)) rfl (by decide) ((R5.below b).below (bA _ _)) (rd_litP wx 1 1 (ints [58]) 3 rfl);have E3 := fun (wx : World) (b : Below w10.heap.size w10 wx) => eqPlcs_same A10 (some ⟨wx.heap.size, 0, none⟩) d10 3 3 [⟨1, 0⟩, ⟨0, 1⟩, ⟨0, 6⟩] (wx.alloc (.cells #[.int .i64 1, .int .i64 0, .int .i64 0, .int .i64 1, .int .i64 0, .int .i64 6] 47)) rfl (by decide) ((HB.out.1.below b).below (bA _ _)) (rd_litP wx 2 3 (plcs [⟨1, 0⟩, ⟨0, 1⟩, ⟨0, 6⟩]) 47 rfl);have v0 : w10.cell? ⟨sb, 0, none⟩ = some (.slice A3 1 d3) := (cOH gs 0).trans rfl;have zs := hL_ gs;have HE := Lib.hid (And.intro E1 (And.intro E2 (And.intro E3 (And.intro gm kZ))));clear E1 E2 E3 gs7 gs gm7 gm R3 R5 kZ kA5 kA4 kA3 u1 u2 u3 u4 u5 bA q0 q1 q2 z9;go_wp2_with (first
    | (go_at_call 24; refine (HE.out.2.2.1 w12 HC2.out).mono ?_; rintro e w13 ⟨rfl, b13⟩; have HC3 := Lib.hid (HC2.out.trans (((Below.refl _ _).alloc HC2.out.size _).trans (b13.mono (by have := HC2.out.size; simp; omega)))); clear b13)
    | (go_at_call 32; have bb := HC1; clear bb; refine (HE.out.2.1 w11 HC1.out).mono ?_; rintro e w12 ⟨rfl, b12⟩; have HC2 := Lib.hid (HC1.out.trans (((Below.refl _ _).alloc HC1.out.size _).trans (b12.mono (by have := HC1.out.size; simp; omega)))); clear b12)
    | (go_at_call 32; refine HE.out.1.mono ?_; rintro e w11 ⟨rfl, b11⟩; have HC1 := Lib.hid (((Below.refl w10.heap.size w10).alloc (Nat.le_refl _) _).trans (b11.mono (by simp))); have hm := (HC1.out.block _ (hL_ HE.out.2.2.2.1)).trans HE.out.2.2.2.1; have m0 := (cOH hm 0).trans rfl; have m1 := (cOH hm 1).trans rfl; have m2 := (cOH hm 2).trans rfl; have zm := hL_ hm; clear hm b11))
  go_ret;have y1 := H2.out.2.1.size;have y2 := H8.out.2.2.2.2.1.size;have y3 := HE.out.2.2.2.2.size;exact ⟨rfl, H2.out.2.1.trans ((H8.out.2.2.2.2.1.below y1 (by simp; omega)).trans ((HE.out.2.2.2.2.below (by omega) (by simp; omega)).trans (HC3.out.mono (by omega))))⟩
end Go.Proofs.YtalcinepeofmcaaGreat
namespace Go.Proofs.YtalcinepeofmcaaGreat
open Go Go.RowKit Sp Pt Hu
structure BhC where
  sb : Nat
  qb : Nat
  rb : Nat
  At : Option Addr
  ct : Nat
  Aw : Option Addr
  cw : Nat
  Ai : Option Addr
  ci : Nat
  s : Shp
  A1 : Option Addr
  c1 : Nat
  B1 : Option Addr
  d1 : Nat
  A2 : Option Addr
  c2 : Nat
  B2 : Option Addr
  d2 : Nat
  p : Prt
  O1 : Option Addr
  o1 : Nat
  G1 : Option Addr
  g1 : Nat
  V2 : Option Addr
  v2 : Nat
  X2 : Option Addr
  x2 : Nat
  Av : Option Addr
  cv : Nat
  l : List Vst
  Aa : Option Addr
  ca : Nat
  a : List Plc
structure BhE (c : BhC) (D : Nat) (w : World) : Prop where
  hD : D ≤ w.heap.size
  sb : w.heap[c.sb]? = some (.cells (shpV c.At c.ct c.Aw c.cw c.Ai c.ci c.s) 30 (0, 0))
  qb : w.heap[c.qb]? = some (.cells (prtV c.A1 c.c1 c.B1 c.d1 c.p) 25 (0, 0))
  rb : w.heap[c.rb]? = some (.cells (prtV c.A2 c.c2 c.B2 c.d2 c.p) 51 (0, 0))
  lt : c.sb < D ∧ c.qb < D ∧ c.rb < D
  PQ : PrtB D w c.A1 c.c1 c.B1 c.d1 c.p
  PR : PrtB D w c.A2 c.c2 c.B2 c.d2 c.p
  VO : RdB D w 4 c.O1 c.l.length (vscs c.l)
  VR : RdB D w 4 c.V2 c.l.length (vscs c.l)
  VL : RdB D w 4 c.Av c.l.length (vscs c.l)
  AG : RdB D w 2 c.G1 c.a.length (plcs c.a)
  AR : RdB D w 2 c.X2 c.a.length (plcs c.a)
  AL : RdB D w 2 c.Aa c.a.length (plcs c.a)
  S1 : RdB D w 2 c.At c.s.thr.length (pnts c.s.thr)
  S2 : RdB D w 2 c.Aw c.s.wat.length (pnts c.s.wat)
  S3 : RdB D w 2 c.Ai c.s.ice.length (pnts c.s.ice)
structure BhK (c : BhC) : Prop where
  n1 : c.p.chs.length ≤ 1000
  n2 : c.p.bts.length ≤ 1000
  n3 : ∀ b ∈ c.p.bts, b.path.length ≤ 1000
  nl : c.l.length ≤ 8
  na : c.a.length ≤ 10
  nt : c.s.thr.length ≤ 20
  nw : c.s.wat.length ≤ 20
  ni : c.s.ice.length ≤ 20
  g : c.a.length ≤ c.g1 ∧ c.g1 ≤ 9223372036854775807
  nil : (c.At = none → c.ct = 0) ∧ (c.Aw = none → c.cw = 0) ∧ (c.Ai = none → c.ci = 0)
section
variable {c : BhC} {D : Nat} {w w' : World}
theorem BhE.below (h : BhE c D w) (b : Below w.heap.size w w') : BhE c D w' := by
  have b' : Below D w w' := b.mono h.hD;exact ⟨Nat.le_trans h.hD b.size, (b.block _ (hL_ h.sb)).trans h.sb, (b.block _ (hL_ h.qb)).trans h.qb, (b.block _ (hL_ h.rb)).trans h.rb, h.lt,
    h.PQ.below b', h.PR.below b', h.VO.below b', h.VR.below b', h.VL.below b', h.AG.below b', h.AR.below b', h.AL.below b', h.S1.below b', h.S2.below b', h.S3.below b'⟩
theorem BhE.cells (h : BhE c D w) : (w.cell? ⟨c.qb, 0, none⟩ = some (.slice c.A1 c.p.chs.length c.c1) ∧ w.cell? ⟨c.qb, 1, none⟩ = some (.slice c.B1 c.p.bts.length c.d1) ∧ w.cell? ⟨c.qb, 2, none⟩ = some (.int .i64 c.p.tugs) ∧ c.qb < w.heap.size) ∧
    w.cell? ⟨c.rb, 0, none⟩ = some (.slice c.A2 c.p.chs.length c.c2) ∧ w.cell? ⟨c.rb, 1, none⟩ = some (.slice c.B2 c.p.bts.length c.d2) ∧ w.cell? ⟨c.rb, 2, none⟩ = some (.int .i64 c.p.tugs) ∧ c.rb < w.heap.size :=
  ⟨⟨(cOH h.qb 0).trans rfl, (cOH h.qb 1).trans rfl, (cOH h.qb 2).trans rfl, hL_ h.qb⟩, (cOH h.rb 0).trans rfl, (cOH h.rb 1).trans rfl, (cOH h.rb 2).trans rfl, hL_ h.rb⟩
theorem BhE.ship (h : BhE c D w) : w.cell? ⟨c.sb, 0, none⟩ = some (.int .i64 c.s.cls) ∧ w.cell? ⟨c.sb, 1, none⟩ = some (.int .i64 c.s.pow) ∧ w.cell? ⟨c.sb, 2, none⟩ = some (.int .i64 c.s.dra) ∧ w.cell? ⟨c.sb, 3, none⟩ = some (.int .i64 c.s.ton) ∧ w.cell? ⟨c.sb, 4, none⟩ = some (.slice c.At c.s.thr.length c.ct) ∧ w.cell? ⟨c.sb, 5, none⟩ = some (.slice c.Aw c.s.wat.length c.cw) ∧ w.cell? ⟨c.sb, 6, none⟩ = some (.slice c.Ai c.s.ice.length c.ci) ∧ w.cell? ⟨c.sb, 7, none⟩ = some (.int .i64 c.s.slow) ∧ w.cell? ⟨c.sb, 8, none⟩ = some (.int .i64 c.s.brash) ∧ w.cell? ⟨c.sb, 9, none⟩ = some (.int .i64 c.s.ridge) ∧ w.cell? ⟨c.sb, 10, none⟩ = some (.int .i64 c.s.press) ∧ c.sb < w.heap.size :=
  ⟨(cOH h.sb 0).trans rfl, (cOH h.sb 1).trans rfl, (cOH h.sb 2).trans rfl, (cOH h.sb 3).trans rfl, (cOH h.sb 4).trans rfl, (cOH h.sb 5).trans rfl, (cOH h.sb 6).trans rfl, (cOH h.sb 7).trans rfl, (cOH h.sb 8).trans rfl, (cOH h.sb 9).trans rfl, (cOH h.sb 10).trans rfl, hL_ h.sb⟩
theorem BhE.shr (h : BhE c D w) (K : BhK c) : ShR c.At c.Aw c.Ai c.s w := ⟨h.S1.rd h.hD, h.S2.rd h.hD, h.S3.rd h.hD, by have := K.nt; omega, by have := K.nw; omega, by have := K.ni; omega⟩
theorem BhE.least (h : BhE c D w) (ha : askedE c.p c.l = 0) (wx : World) (b : Below w.heap.size w wx) : Calls Tryz.prog 43 #[.agg (prtV c.A2 c.c2 c.B2 c.d2 c.p), .slice c.V2 c.l.length c.v2] wx (LeastPost wx c.p c.l) := by
  have hx := h.below b;exact rleast_any D c.A2 c.c2 c.B2 c.d2 c.p c.V2 c.v2 c.l wx hx.PR hx.VR hx.hD ha
theorem BhE.rbest (h : BhE c D w) : Calls Tryz.prog 15 #[.agg (prtV c.A2 c.c2 c.B2 c.d2 c.p), .slice c.V2 c.l.length c.v2] w (BestPost w c.p c.l) :=
  rBest_of D c.A2 c.c2 c.B2 c.d2 c.p c.V2 c.v2 c.l w h.PR h.VR h.hD (fun ha wx b => h.least ha wx b) (fun hl h0 => found_plsm hl h0)
theorem BhE.rverify (h : BhE c D w) : Calls Tryz.prog 19 #[.agg (prtV c.A2 c.c2 c.B2 c.d2 c.p), .slice c.V2 c.l.length c.v2, .slice c.X2 c.a.length c.x2] w (VerPost w c.p c.l c.a) :=
  rVerify_of D c.A2 c.c2 c.B2 c.d2 c.p c.V2 c.v2 c.l c.X2 c.x2 c.a w h.PR h.VR h.AR h.hD (fun ha wx b => h.least ha wx b)
theorem takes_eq (At : Option Addr) (ct : Nat) (Aw : Option Addr) (cw : Nat) (Ai : Option Addr) (ci : Nat) (s : Shp) (w : World) (R : ShR At Aw Ai s w) :
    Calls Tryz.prog 10 #[.agg (shpV At ct Aw cw Ai ci s)] w fun e w' => e = .returned (.tuple #[.int .i64 (limV s), .int .i64 (limE s)]) ∧ Below w.heap.size w w' := by
  refine (takes_any At ct Aw cw Ai ci s w R).mono ?_;rintro e w' ⟨t, k, rfl, h, b⟩;obtain ⟨rfl, rfl⟩ := lim_post h;exact ⟨rfl, b⟩
end
end Go.Proofs.YtalcinepeofmcaaGreat
namespace Go.Proofs.YtalcinepeofmcaaGreat
open Go Go.RowKit Sp Pt Hu
theorem berths_b {Q0 : Exit → Act → World → Prop} {c : BhC} {D : Nat} {w wx : World} (E : BhE c D wx) (K : BhK c) (bw : Below w.heap.size w wx) {s0 s3 s4 s5 s6 s8 s14 s15 s17 s18 s19 s20 s21 s22 s23 s24 s25 s26 s27 s28 s29 s30 s31 s32 s33 s34 s35 s36 s37 s38 s39 s40 s41 s42 s43 s44 s45 s46 s47 s48 s49 s50 s51 s52 s53 s54 s55 s56 s57 s58 s59 s60 s61 s62 s63 s64 s65 s66 s67 s68 s69 s70 s71 s72 s73 s74 s75 s76 s77 s78 s79 s80 s81 s82 s83 s84 s85 s86 s87 s88 s89 s90 s91 s92 s93 s94 s95 s96 s97 s98 s99 s100 s101 s102 s103 s104 s105 s106 s107 s108 s109 s110 s111 s112 s113 s114 s115 s116 s117 s118 s119 s120 s121 s122 s123 s124 s125 s126 s127 s128 s129 s130 s131 s132 s133 s134 s135 s136 s137 s138 s139 s140 s141 s142 s143 s144 s145 s146 s147 s148 s149 s150 s151 s152 s153 s154 s155 s156 s157 s158 s159 s160 s161 s162 s163 s164 s165 s166 s167 s168 s169 s170 s171 s172 s173 s174 s175 s176 s177 s178 s179 s180 s181 s182 s183 s184 s185 s186 s187 s188 s189 s190 s191 s192 s193 s194 s195 s196 s197 s198 s199 s200 s201 s202 s203 s204 s205 s206 s207 s208 s209 : Value} (hQ0 : ∀ e1 a1 w1, bodyPost Tryz.prog Tryz.f3 (fun e w' => e = .returned (.bool true) ∧ Below w.heap.size w w') e1 a1 w1 → Q0 e1 a1 w1) :
    Code.wp Tryz.prog (restOf Tryz.f3 17) Q0 ⟨#[s0, .slice c.Av c.l.length c.cv, .slice c.Aa c.a.length c.ca, s3, s4, s5, s6, .pointer (some ⟨c.sb, 0, none⟩), s8, .pointer (some ⟨c.qb, 0, none⟩), .slice c.O1 c.l.length c.o1, .slice c.G1 c.a.length c.g1, .pointer (some ⟨c.rb, 0, none⟩), .slice c.V2 c.l.length c.v2, s14, s15, .slice c.X2 c.a.length c.x2, s17, s18, s19, s20, s21, s22, s23, s24, s25, s26, s27, s28, s29, s30, s31, s32, s33, s34, s35, s36, s37, s38, s39, s40, s41, s42, s43, s44, s45, s46, s47, s48, s49, s50, s51, s52, s53, s54, s55, s56, s57, s58, s59, s60, s61, s62, s63, s64, s65, s66, s67, s68, s69, s70, s71, s72, s73, s74, s75, s76, s77, s78, s79, s80, s81, s82, s83, s84, s85, s86, s87, s88, s89, s90, s91, s92, s93, s94, s95, s96, s97, s98, s99, s100, s101, s102, s103, s104, s105, s106, s107, s108, s109, s110, s111, s112, s113, s114, s115, s116, s117, s118, s119, s120, s121, s122, s123, s124, s125, s126, s127, s128, s129, s130, s131, s132, s133, s134, s135, s136, s137, s138, s139, s140, s141, s142, s143, s144, s145, s146, s147, s148, s149, s150, s151, s152, s153, s154, s155, s156, s157, s158, s159, s160, s161, s162, s163, s164, s165, s166, s167, s168, s169, s170, s171, s172, s173, s174, s175, s176, s177, s178, s179, s180, s181, s182, s183, s184, s185, s186, s187, s188, s189, s190, s191, s192, s193, s194, s195, s196, s197, s198, s199, s200, s201, s202, s203, s204, s205, s206, s207, s208, s209], []⟩ wx := by
  refine wp_mono ?_ hQ0;clear hQ0
  conv => arg 2; whnf
  have HK := Lib.hid K;have H0 := Lib.hid (And.intro E bw);clear E bw K;obtain ⟨n, hn⟩ : ∃ n, n = limV c.s := ⟨_, rfl⟩;obtain ⟨ne, hne⟩ : ∃ n, n = limE c.s := ⟨_, rfl⟩;obtain ⟨bn, hbn⟩ : ∃ n, n = bestN c.p c.l := ⟨_, rfl⟩;obtain ⟨be, hbe⟩ : ∃ n, n = bestE c.p c.l := ⟨_, rfl⟩;obtain ⟨bl, hbl⟩ : ∃ n, n = (bestV c.p c.l).length := ⟨_, rfl⟩;obtain ⟨vn, hvn⟩ : ∃ n, n = verN c.p c.l c.a := ⟨_, rfl⟩;obtain ⟨ve, hve⟩ : ∃ n, n = verE c.p c.l c.a := ⟨_, rfl⟩;obtain ⟨ch, hch⟩ : ∃ n, n = crowdH c.p c.l := ⟨_, rfl⟩;obtain ⟨cd, hcd⟩ : ∃ n, n = crowdD c.p c.l := ⟨_, rfl⟩;obtain ⟨ce, hce⟩ : ∃ n, n = crowdE c.p c.l := ⟨_, rfl⟩;have HV := Lib.hid (And.intro hn (And.intro hne (And.intro hbn (And.intro hbe (And.intro hbl (And.intro hvn (And.intro hve (And.intro hch (And.intro hcd hce)))))))));clear hn hne hbn hbe hbl hvn hve hch hcd hce;have TK := Lib.hid True.intro;obtain ⟨u0, u1, u2, u3, u4, u5, u6, u7, u8, u9, u10, u11⟩ := H0.out.1.ship;go_upto_region 18 with (first | (go_at_call 11; refine (copyShip_any c.At c.ct c.Aw c.cw c.Ai c.ci c.s wx (H0.out.1.shr HK.out) HK.out.nil).mono ?_; rintro e w1 ⟨At1, ct1, Aw1, cw1, Ai1, ci1, rfl, R1, b'⟩; have H1 := Lib.hid (And.intro (H0.out.1.below b') (H0.out.2.trans (b'.mono H0.out.2.size))); clear b'; have HR1 := Lib.hid R1; clear R1) | (go_at_call 10; have kt := takes_eq At1 ct1 Aw1 cw1 Ai1 ci1 c.s w1 HR1.out; rw [← HV.out.1, ← HV.out.2.1] at kt; refine kt.mono ?_; clear kt; rintro e w2 ⟨rfl, b'⟩; have H2 := Lib.hid (And.intro (H1.out.1.below b') (H1.out.2.trans (b'.mono H1.out.2.size))); clear b'))
  clear u0 u1 u2 u3 u4 u5 u6 u7 u8 u9 u10 u11;obtain ⟨u0, u1, u2, u3, u4, u5, u6, u7, u8, u9, u10, u11⟩ := H2.out.1.ship;go_upto_region 19 with (first | (go_at_call 13; refine (shipR_any c.At c.ct c.Aw c.cw c.Ai c.ci c.s w2 (H2.out.1.shr HK.out)).mono ?_; rintro e w3 ⟨At3, ct3, Aw3, cw3, Ai3, ci3, rfl, R3, b'⟩; have H3 := Lib.hid (And.intro (H2.out.1.below b') (H2.out.2.trans (b'.mono H2.out.2.size))); clear b'; have HR3 := Lib.hid R3; clear R3) | (go_at_call 12; have kt := rtakes_any At3 ct3 Aw3 cw3 Ai3 ci3 c.s w3 HR3.out; rw [← HV.out.1, ← HV.out.2.1] at kt; refine kt.mono ?_; clear kt; rintro e w4 ⟨rfl, b'⟩; have H4 := Lib.hid (And.intro (H3.out.1.below b') (H3.out.2.trans (b'.mono H3.out.2.size))); clear b'))
  clear u0 u1 u2 u3 u4 u5 u6 u7 u8 u9 u10 u11;have e1 : (n != n) = false := by simp
  have e2 : (ne != ne) = false := by simp
  obtain ⟨⟨q0, q1, q2, q3⟩, r0, r1, r2, r3⟩ := H4.out.1.cells;go_upto_region 22 with (go_at_call 14; have kt := Best_any D c.A1 c.c1 c.B1 c.d1 c.p c.O1 c.o1 c.l w4 H4.out.1.PQ H4.out.1.VO H4.out.1.hD; unfold BestPost at kt; rw [← HV.out.2.2.1, ← HV.out.2.2.2.1, ← HV.out.2.2.2.2.1] at kt; refine kt.mono ?_; clear kt; rintro e w5 ⟨A5, k5, rfl, R5, l5, b'⟩; have H5 := Lib.hid (And.intro (H4.out.1.below b') (H4.out.2.trans (b'.mono H4.out.2.size))); clear b'; have HR5 := Lib.hid (And.intro R5 l5); clear R5 l5)
  clear e1 e2;clear q0 q1 q2 q3 r0 r1 r2 r3;obtain ⟨⟨q0, q1, q2, q3⟩, r0, r1, r2, r3⟩ := H5.out.1.cells;go_upto_region 23 with (go_at_call 15; have kt := H5.out.1.rbest; unfold BestPost at kt; rw [← HV.out.2.2.1, ← HV.out.2.2.2.1, ← HV.out.2.2.2.2.1] at kt; refine kt.mono ?_; clear kt; rintro e w6 ⟨A6, k6, rfl, R6, l6, b'⟩; have HR6 := Lib.hid (And.intro R6 (HR5.out.1.below b')); clear R6 l6; have H6 := Lib.hid (And.intro (H5.out.1.below b') (H5.out.2.trans (b'.mono H5.out.2.size))); clear b')
  have e1 : (bn != bn) = false := by simp
  have e2 : (be != be) = false := by simp
  clear q0 q1 q2 q3 r0 r1 r2 r3;obtain ⟨⟨q0, q1, q2, q3⟩, r0, r1, r2, r3⟩ := H6.out.1.cells;go_upto_region 25 with (go_at_call 16; have kt := eqPl_any A5 k5 A6 k6 (bestV c.p c.l) w6 (by rw [← HV.out.2.2.2.2.1]; exact HR6.out.2) (by rw [← HV.out.2.2.2.2.1]; exact HR6.out.1) (by have := HR5.out.2; have := HV.out.2.2.2.2.1; omega); rw [← HV.out.2.2.2.2.1] at kt; refine kt.mono ?_; clear kt; rintro e w7 ⟨rfl, b'⟩; have H7 := Lib.hid (And.intro (H6.out.1.below b') (H6.out.2.trans (b'.mono H6.out.2.size))); clear b')
  clear e1 e2;clear q0 q1 q2 q3 r0 r1 r2 r3;obtain ⟨⟨q0, q1, q2, q3⟩, r0, r1, r2, r3⟩ := H7.out.1.cells;go_upto_region 26 with (go_at_call 18; have kt := Verify_any D c.A1 c.c1 c.B1 c.d1 c.p c.O1 c.o1 c.l c.G1 c.g1 c.a w7 H7.out.1.PQ H7.out.1.VO H7.out.1.AG HK.out.g H7.out.1.hD; unfold VerPost at kt; rw [← HV.out.2.2.2.2.2.1, ← HV.out.2.2.2.2.2.2.1] at kt; refine kt.mono ?_; clear kt; rintro e w8 ⟨rfl, b'⟩; have H8 := Lib.hid (And.intro (H7.out.1.below b') (H7.out.2.trans (b'.mono H7.out.2.size))); clear b')
  clear q0 q1 q2 q3 r0 r1 r2 r3;obtain ⟨⟨q0, q1, q2, q3⟩, r0, r1, r2, r3⟩ := H8.out.1.cells;go_upto_region 27 with (go_at_call 19; have kt := H8.out.1.rverify; unfold VerPost at kt; rw [← HV.out.2.2.2.2.2.1, ← HV.out.2.2.2.2.2.2.1] at kt; refine kt.mono ?_; clear kt; rintro e w9 ⟨rfl, b'⟩; have H9 := Lib.hid (And.intro (H8.out.1.below b') (H8.out.2.trans (b'.mono H8.out.2.size))); clear b')
  have e1 : (vn != vn) = false := by simp
  have e2 : (ve != ve) = false := by simp
  clear q0 q1 q2 q3 r0 r1 r2 r3;obtain ⟨⟨q0, q1, q2, q3⟩, r0, r1, r2, r3⟩ := H9.out.1.cells;go_upto_region 30 with (go_at_call 20; have kt := Crowded_any D c.A1 c.c1 c.B1 c.d1 c.p c.O1 c.o1 c.l w9 H9.out.1.PQ H9.out.1.VO H9.out.1.hD; unfold CrowdPost at kt; rw [← HV.out.2.2.2.2.2.2.2.1, ← HV.out.2.2.2.2.2.2.2.2.1, ← HV.out.2.2.2.2.2.2.2.2.2] at kt; refine kt.mono ?_; clear kt; rintro e w10 ⟨rfl, b'⟩; have H10 := Lib.hid (And.intro (H9.out.1.below b') (H9.out.2.trans (b'.mono H9.out.2.size))); clear b')
  clear e1 e2;clear q0 q1 q2 q3 r0 r1 r2 r3;obtain ⟨⟨q0, q1, q2, q3⟩, r0, r1, r2, r3⟩ := H10.out.1.cells;go_upto_region 31 with (go_at_call 21; have kt := rCrowded_any D c.A2 c.c2 c.B2 c.d2 c.p c.V2 c.v2 c.l w10 H10.out.1.PR H10.out.1.VR H10.out.1.hD; unfold CrowdPost at kt; rw [← HV.out.2.2.2.2.2.2.2.1, ← HV.out.2.2.2.2.2.2.2.2.1, ← HV.out.2.2.2.2.2.2.2.2.2] at kt; refine kt.mono ?_; clear kt; rintro e w11 ⟨rfl, b'⟩; have H11 := Lib.hid (And.intro (H10.out.1.below b') (H10.out.2.trans (b'.mono H10.out.2.size))); clear b')
  have e1 : (ch == ch) = true := by simp
  have e2 : (cd == cd) = true := by simp
  have e3 : (ce == ce) = true := by simp
  clear q0 q1 q2 q3 r0 r1 r2 r3;obtain ⟨⟨q0, q1, q2, q3⟩, r0, r1, r2, r3⟩ := H11.out.1.cells;go_wp2_with (first | (go_at_call 22; refine (samePort_any c.A1 c.c1 c.B1 c.d1 c.A2 c.c2 c.B2 c.d2 c.p w11 (H11.out.1.PQ.mono H11.out.1.hD) (H11.out.1.PR.mono H11.out.1.hD) HK.out.n1 HK.out.n2 HK.out.n3).mono ?_; rintro e w12 ⟨rfl, b'⟩; clear q0 q1 q2 q3 r0 r1 r2 r3; have H12 := Lib.hid (And.intro (H11.out.1.below b') (H11.out.2.trans (b'.mono H11.out.2.size))); clear b') | (go_at_call 23; refine (eqVsts_same c.O1 c.Av c.o1 c.cv c.l.length c.l w12 rfl (by have := HK.out.nl; omega) (H12.out.1.VO.rd H12.out.1.hD) (H12.out.1.VL.rd H12.out.1.hD)).mono ?_; rintro e w13 ⟨rfl, b'⟩; have H13 := Lib.hid (And.intro (H12.out.1.below b') (H12.out.2.trans (b'.mono H12.out.2.size))); clear b') | (go_at_call 24; refine (eqPlcs_same c.G1 c.Aa c.g1 c.ca c.a.length c.a w13 rfl (by have := HK.out.na; omega) (H13.out.1.AG.rd H13.out.1.hD) (H13.out.1.AL.rd H13.out.1.hD)).mono ?_; rintro e w14 ⟨rfl, b'⟩; have H14 := Lib.hid (And.intro (H13.out.1.below b') (H13.out.2.trans (b'.mono H13.out.2.size))); clear b') | (go_at_call 5; refine (awakeP_any w14).mono ?_; rintro e w15 ⟨rfl, b'⟩; have H15 := Lib.hid (And.intro (H14.out.1.below b') (H14.out.2.trans (b'.mono H14.out.2.size))); clear b'))
  go_ret;exact ⟨rfl, H15.out.2⟩
end Go.Proofs.YtalcinepeofmcaaGreat
