import Derived.Test.YtalcinepeofmcaaGreatPBp23
import Derived.Test.YtalcinepeofmcaaGreatPBp9
import Derived.Test.YtalcinepeofmcaaGreatPBp2
set_option linter.unusedVariables false
set_option linter.unusedSimpArgs false
set_option maxRecDepth 100000
set_option maxHeartbeats 40000000
namespace Go.Proofs.YtalcinepeofmcaaGreat
open Go Go.RowKit Sp Hu
def Hl1V (sb : Nat) (n vv : Int) (ch z : Bool) (s : Unit) : Nat → Value → Prop
  | 0, v => v = .int .i64 n
  | 1, v => v = .agg #[.int .i64 100, .int .i64 n, .int .i64 0, .int .i64 0]
  | 2, v => v = .bool ch
  | 3, v => v = .agg #[.pointer (some ⟨sb, 0, none⟩), .int .i64 100, .int .i64 n, .int .i64 0, .int .i64 0, .bool ch]
  | 4, v => v = .int .i64 vv
  | 5, v => v = .bool z
  | 6, v => v = .bool z
  | _, _ => True
theorem limit1_any (c : ShC) (cb vb : Nat) (ch : Bool) (v n : Int) (w : World) (E : ShE c w) (L : ShL c.s) (hcb : w.heap[cb]? = some (.cells #[.bool ch] 4 (0, 0))) (hvb : w.heap[vb]? = some (.cells #[.int .i64 v] 3 (0, 0))) (hn : 0 ≤ n ∧ n ≤ 400) (hv : 0 ≤ v ∧ v ≤ 1000) :
    Calls Tryz.prog 62 #[.int .i64 n, .pointer (some ⟨c.sb, 0, none⟩), .pointer (some ⟨cb, 0, none⟩), .pointer (some ⟨vb, 0, none⟩)] w fun e w' => e = .returned (.bool (makes c.s (lvl n) ch v)) ∧ Below w.heap.size w w' := by
  obtain ⟨z, hz⟩ : ∃ z, z = makes c.s (lvl n) ch v := ⟨_, rfl⟩;have km : ∀ wx, Below w.heap.size w wx → Calls Tryz.prog 64 #[.agg #[.pointer (some ⟨c.sb, 0, none⟩), .int .i64 100, .int .i64 n, .int .i64 0, .int .i64 0, .bool ch], .int .i64 v] wx fun e w' => e = .returned (.bool z) ∧ Below wx.heap.size wx w' := fun wx hb => by
    rw [hz]; exact makes_any c (lvl n) ch v wx (E.below hb) L (lvl_ok hn) hv
  rw [← hz];have HC := Lib.hid (And.intro hcb (And.intro hvb km));clear hcb hvb km hz
  go_enter Tryz.func62, Tryz.ntmps62
  go_upto_region 1 with fail
  refine wRS (σ := Unit) (by kernel_rfl) (by kernel_rfl) (fun sg jx vx _ => Hl1V c.sb n v ch z sg jx vx) (fun sg ly wx => Own w.heap.size w [] wx) () ?_ ?_ ?_
  · exact (Own.start w).drew
  · simp only [AllFrom, Nat.zero_add, Nat.reduceAdd];refine ⟨?_, ?_, ?_, ?_, ?_, ?_, ?_, trivial⟩
    · refine sP_ fun sg ly act wx hl hd hW hF => ?_;have et0 := hF.old 0 (by kernel_rfl);simp [Act.eval] at et0;exact ⟨hW, .int .i64 n, by go_simp, rfl⟩
    · refine sC_ fun sg ly act wx hl hd hW hF => ?_;simp [Region.binds] at hd;have et6 := hF.new 0 6 (by simp [hd]) rfl;simp [Hl1V, Act.eval] at et6;have hO := hW;try dsimp only at hO
      refine ⟨63, #[.int .i64 n], by go_simp, ?_⟩;refine (hulevel_any n wx).mono ?_;rintro e w2 ⟨rfl, hb⟩;exact ⟨_, sg, rfl, Own.below hW hb, rfl, fun _ _ _ h => h⟩
    · refine sP_ fun sg ly act wx hl hd hW hF => ?_;have et2 := hF.old 2 (by kernel_rfl);simp [Act.eval] at et2;have cq := (cOH ((Own.bel hW).block _ (hL_ HC.out.1) |>.trans HC.out.1) 0).trans rfl;have zq := hL_ ((Own.bel hW).block _ (hL_ HC.out.1) |>.trans HC.out.1);exact ⟨hW, .bool ch, by go_simp, rfl⟩
    · refine sP_ fun sg ly act wx hl hd hW hF => ?_;simp [Region.binds] at hd;have et1 := hF.old 1 (by kernel_rfl);simp [Act.eval] at et1;have et7 := hF.new 1 7 (by simp [hd]) rfl;simp [Hl1V, Act.eval] at et7;have et8 := hF.new 2 8 (by simp [hd]) rfl;simp [Hl1V, Act.eval] at et8;exact ⟨hW, .agg #[.pointer (some ⟨c.sb, 0, none⟩), .int .i64 100, .int .i64 n, .int .i64 0, .int .i64 0, .bool ch], by go_simp, rfl⟩
    · refine sP_ fun sg ly act wx hl hd hW hF => ?_;have et3 := hF.old 3 (by kernel_rfl);simp [Act.eval] at et3;have cq := (cOH ((Own.bel hW).block _ (hL_ HC.out.2.1) |>.trans HC.out.2.1) 0).trans rfl;have zq := hL_ ((Own.bel hW).block _ (hL_ HC.out.2.1) |>.trans HC.out.2.1);exact ⟨hW, .int .i64 v, by go_simp, rfl⟩
    · refine sC_ fun sg ly act wx hl hd hW hF => ?_;simp [Region.binds] at hd;have et9 := hF.new 3 9 (by simp [hd]) rfl;simp [Hl1V, Act.eval] at et9;have et10 := hF.new 4 10 (by simp [hd]) rfl;simp [Hl1V, Act.eval] at et10;have hO := hW;try dsimp only at hO
      refine ⟨64, #[.agg #[.pointer (some ⟨c.sb, 0, none⟩), .int .i64 100, .int .i64 n, .int .i64 0, .int .i64 0, .bool ch], .int .i64 v], by go_simp, ?_⟩;refine (HC.out.2.2 wx (Own.bel hW)).mono ?_;rintro e w2 ⟨rfl, hb⟩;exact ⟨_, sg, rfl, Own.below hW hb, rfl, fun _ _ _ h => h⟩
    · refine sP_ fun sg ly act wx hl hd hW hF => ?_;simp [Region.binds] at hd;have et11 := hF.new 5 11 (by simp [hd]) rfl;simp [Hl1V, Act.eval] at et11;exact ⟨hW, .bool z, by go_simp, rfl⟩
  intro sg af w4 hWW hF;have e5 := hF.new 6 5 (by decide) rfl;obtain ⟨ff, hf, rfl⟩ := hF.lit;rw [← hf] at e5;simp only [Hl1V] at e5;have HB := Lib.hid (Own.bel hWW);clear hWW hF hf;simp only [List.filterMap, List.foldl, List.setIfInBounds_toArray, List.set_cons_succ, List.set_cons_zero, e5];clear e5;go_wp2_with fail
  go_ret;exact ⟨rfl, HB.out⟩
def LimPost (s : Shp) (v : Int) (ch : Bool) (w : World) (e : Ending) (w' : World) : Prop :=
  ∃ t k, e = .returned (.tuple #[.int .i64 t, .int .i64 k]) ∧ ((k = 0 ∧ shipE s = 0 ∧ Grt (fun n => makes s (lvl n) ch v) 0 400 t) ∨ (k = 4 ∧ shipE s = 0 ∧ makes s (lvl 0) ch v = false ∧ t = 0) ∨ (k = shipE s ∧ k ≠ 0 ∧ t = 0)) ∧ Below w.heap.size w w'
theorem limit_any (At : Option Addr) (ct : Nat) (Aw : Option Addr) (cw : Nat) (Ai : Option Addr) (ci : Nat) (s : Shp) (v : Int) (ch : Bool) (w : World) (R : ShR At Aw Ai s w) (hv : 0 ≤ v ∧ v ≤ 250) :
    Calls Tryz.prog 36 #[.agg (shpV At ct Aw cw Ai ci s), .int .i64 v, .bool ch] w (LimPost s v ch w) := by
  obtain ⟨X, hX⟩ : ∃ X, X = ((w.alloc (.cells (shpV At ct Aw cw Ai ci s) 30)).alloc (.cells #[.int .i64 v] 3)).alloc (.cells #[.bool ch] 4) := ⟨_, rfl⟩;obtain ⟨sb, hsb⟩ : ∃ b, b = w.heap.size := ⟨_, rfl⟩;obtain ⟨vb, hvb⟩ : ∃ b, b = w.heap.size + 1 := ⟨_, rfl⟩;obtain ⟨cb, hcb⟩ : ∃ b, b = w.heap.size + 1 + 1 := ⟨_, rfl⟩;have O : Own w.heap.size w [.blk sb (.cells (shpV At ct Aw cw Ai ci s) 30), .blk vb (.cells #[.int .i64 v] 3), .blk cb (.cells #[.bool ch] 4)] X := by
    have h := (((Own.start w).alloc (.cells (shpV At ct Aw cw Ai ci s) 30)).alloc (.cells #[.int .i64 v] 3)).alloc (.cells #[.bool ch] 4);rw [hX, hsb, hvb, hcb]; simpa using h
  obtain ⟨e0, he⟩ : ∃ e, e = shipE s := ⟨_, rfl⟩;have RX := R.below O.bel;have k0 := huasked_any At ct Aw cw Ai ci s ⟨0, 0, 0, 0⟩ v X RX;have hE : huAskedE s ⟨0, 0, 0, 0⟩ v = e0 := by
    unfold huAskedE;rw [← he];by_cases h0 : e0 = 0
    · rw [if_neg (by simpa using h0), h0];unfold loadE icE;simp only [Pt.within_iff, within, decide_true, Bool.and_true, if_true, ne_eq, not_true, if_false];simp; omega
    · rw [if_pos h0]
  rw [hE] at k0;have HR := Lib.hid (And.intro he RX);have H0 := Lib.hid (And.intro k0 O);clear hE he R k0 RX;have hh := O.heap 0 rfl;have s0 : X.cell? ⟨sb, 0, none⟩ = some _ := (cOH hh 0).trans rfl;have s1 : X.cell? ⟨sb, 1, none⟩ = some _ := (cOH hh 1).trans rfl;have s2 : X.cell? ⟨sb, 2, none⟩ = some _ := (cOH hh 2).trans rfl;have s3 : X.cell? ⟨sb, 3, none⟩ = some _ := (cOH hh 3).trans rfl;have s4 : X.cell? ⟨sb, 4, none⟩ = some _ := (cOH hh 4).trans rfl;have s5 : X.cell? ⟨sb, 5, none⟩ = some _ := (cOH hh 5).trans rfl;have s6 : X.cell? ⟨sb, 6, none⟩ = some _ := (cOH hh 6).trans rfl;have s7 : X.cell? ⟨sb, 7, none⟩ = some _ := (cOH hh 7).trans rfl;have s8 : X.cell? ⟨sb, 8, none⟩ = some _ := (cOH hh 8).trans rfl;have s9 : X.cell? ⟨sb, 9, none⟩ = some _ := (cOH hh 9).trans rfl;have s10 : X.cell? ⟨sb, 10, none⟩ = some _ := (cOH hh 10).trans rfl;have zs := hL_ hh;have h1 := O.heap 1 rfl;have u0 : X.cell? ⟨vb, 0, none⟩ = some (.int .i64 v) := (cOH h1 0).trans rfl;have zv := hL_ h1;clear hh h1 O;by_cases h0 : e0 = 0
  · subst h0
    go_enter Tryz.func36, Tryz.ntmps36
    go_upto_region 1 with fail
    rw [← hX, ← hcb, ← hvb, ← hsb];clear hX hcb hvb hsb;go_upto_region 4 with (go_at_call 60; refine H0.out.1.mono ?_; rintro e w1 ⟨rfl, b1⟩; have HB := Lib.hid b1; clear b1)
    have O1 := H0.out.2.below HB.out;have sok := shipE_ok HR.out.1.symm;have E1 : ShE ⟨sb, At, ct, Aw, cw, Ai, ci, s⟩ w1 := ⟨O1.heap 0 rfl, (HR.out.2.below HB.out).rt, (HR.out.2.below HB.out).rw_, (HR.out.2.below HB.out).ri⟩;have L1 : ShL s := ⟨sok.1, sok.2.2.2.2.2.1, sok.2.2.2.2.2.2.1, sok.2.2.2.2.2.2.2.1, sok.2.2.1⟩;have kg := grtL_any sb cb vb (fun n => makes s (lvl n) ch v) 0 400 w1 (by decide) (fun a b h1 h2 h3 hm => makes_t sok.1 (by omega) ch hv.1 h1 h2 (Int.le_refl 0) hm) (fun n h1 h2 wx hb => limit1_any ⟨sb, At, ct, Aw, cw, Ai, ci, s⟩ cb vb ch v n wx (E1.below hb) L1 ((hb.block _ (hL_ (O1.heap 2 rfl))).trans (O1.heap 2 rfl)) ((hb.block _ (hL_ (O1.heap 1 rfl))).trans (O1.heap 1 rfl)) ⟨h1, h2⟩ (by omega));have KG := Lib.hid (And.intro kg O1.bel);have z1 := hL_ (O1.heap 0 rfl);have z2 := hL_ (O1.heap 1 rfl);have z3 := hL_ (O1.heap 2 rfl);clear kg E1 L1 O1 sok;go_upto_region 5 with (go_at_call 61; refine KG.out.1.mono ?_; rintro e w2 ⟨r, b, rfl, hg, b2⟩; have HG := Lib.hid (And.intro hg (KG.out.2.trans (b2.mono KG.out.2.size))); clear hg b2)
    cases b
    · go_wp2_with fail
      go_ret2
      rcases HG.out.1 with ⟨hb, _⟩ | ⟨_, h1, h2⟩
      · cases hb
      · exact ⟨0, 4, rfl, .inr (.inl ⟨rfl, HR.out.1.symm, h1, rfl⟩), HG.out.2⟩
    · go_wp2_with fail
      go_ret2
      rcases HG.out.1 with ⟨_, h1⟩ | ⟨hb, _⟩
      · exact ⟨r, 0, rfl, .inl ⟨rfl, HR.out.1.symm, h1⟩, HG.out.2⟩
      · cases hb
  · have hn : (e0 != 0) = true := by simpa using h0
    go_enter Tryz.func36, Tryz.ntmps36
    go_upto_region 1 with fail
    rw [← hX, ← hcb, ← hvb, ← hsb];clear hX hcb hvb hsb;go_wp2_with (go_at_call 60; refine H0.out.1.mono ?_; rintro e w1 ⟨rfl, b1⟩; have HB := Lib.hid (H0.out.2.bel.trans (b1.mono H0.out.2.bel.size)); clear b1)
    go_ret2
    exact ⟨0, e0, rfl, .inr (.inr ⟨HR.out.1, h0, rfl⟩), HB.out⟩
theorem takes_any (At : Option Addr) (ct : Nat) (Aw : Option Addr) (cw : Nat) (Ai : Option Addr) (ci : Nat) (s : Shp) (w : World) (R : ShR At Aw Ai s w) :
    Calls Tryz.prog 10 #[.agg (shpV At ct Aw cw Ai ci s)] w (LimPost s 10 true w) := by
  obtain ⟨X, hX⟩ : ∃ X, X = w.alloc (.cells (shpV At ct Aw cw Ai ci s) 30) := ⟨_, rfl⟩;obtain ⟨sb, hsb⟩ : ∃ b, b = w.heap.size := ⟨_, rfl⟩;have O : Own w.heap.size w [.blk sb (.cells (shpV At ct Aw cw Ai ci s) 30)] X := by
    have h := (Own.start w).alloc (.cells (shpV At ct Aw cw Ai ci s) 30);rw [hX, hsb]; simpa using h
  have k0 := limit_any At ct Aw cw Ai ci s 10 true X (R.below O.bel) (by decide);have H0 := Lib.hid (And.intro k0 O.bel);have hh := O.heap 0 rfl;have s0 : X.cell? ⟨sb, 0, none⟩ = some _ := (cOH hh 0).trans rfl;have s1 : X.cell? ⟨sb, 1, none⟩ = some _ := (cOH hh 1).trans rfl;have s2 : X.cell? ⟨sb, 2, none⟩ = some _ := (cOH hh 2).trans rfl;have s3 : X.cell? ⟨sb, 3, none⟩ = some _ := (cOH hh 3).trans rfl;have s4 : X.cell? ⟨sb, 4, none⟩ = some _ := (cOH hh 4).trans rfl;have s5 : X.cell? ⟨sb, 5, none⟩ = some _ := (cOH hh 5).trans rfl;have s6 : X.cell? ⟨sb, 6, none⟩ = some _ := (cOH hh 6).trans rfl;have s7 : X.cell? ⟨sb, 7, none⟩ = some _ := (cOH hh 7).trans rfl;have s8 : X.cell? ⟨sb, 8, none⟩ = some _ := (cOH hh 8).trans rfl;have s9 : X.cell? ⟨sb, 9, none⟩ = some _ := (cOH hh 9).trans rfl;have s10 : X.cell? ⟨sb, 10, none⟩ = some _ := (cOH hh 10).trans rfl;have zs := hL_ hh;clear hh O R k0
  go_enter Tryz.func10, Tryz.ntmps10
  go_upto_region 1 with fail
  rw [← hX, ← hsb];clear hX hsb;go_wp2_with (go_at_call 36; refine H0.out.1.mono ?_; rintro e w1 ⟨t, k, rfl, hp, b1⟩; have HB := Lib.hid (And.intro hp (H0.out.2.trans (b1.mono H0.out.2.size))); clear hp b1)
  go_ret2
  exact ⟨t, k, rfl, HB.out.1, HB.out.2⟩
theorem ship40 {s : Shp} (h0 : ruleB s 0 = true) {k : Nat} (h1 : 1 ≤ k) (h6 : k < 6) (hn : ruleB s k = false) : shipE s = 40 := by
  rw [shipE_rules, h0];rcases (by omega : k = 1 ∨ k = 2 ∨ k = 3 ∨ k = 4 ∨ k = 5) with rfl | rfl | rfl | rfl | rfl
  all_goals
    simp only [hn, if_true, Bool.true_eq_false, if_false]
    repeat' split
    all_goals rfl
theorem pts_end {l : List Pnt} {m : Nat} (h : m < l.length) (h2 : l.length ≤ m + 1) : endX l = l[m].x := by
  unfold endX;rw [List.getLastD_eq_getLast?, List.getLast?_eq_getElem?, show l.length - 1 = m by omega, List.getElem?_eq_getElem h]; rfl
theorem r3check_any (At : Option Addr) (ct : Nat) (Aw : Option Addr) (cw : Nat) (Ai : Option Addr) (ci : Nat) (s : Shp) (w : World) (R : ShR At Aw Ai s w) :
    Calls Tryz.prog 88 #[.agg (shpV At ct Aw cw Ai ci s)] w fun e w' => e = .returned (.int .i64 (shipE s)) ∧ Below w.heap.size w w' := by
  obtain ⟨X, hX⟩ : ∃ X, X = w.alloc (.cells (shpV At ct Aw cw Ai ci s) 64) := ⟨_, rfl⟩;obtain ⟨sb, hsb⟩ : ∃ b, b = w.heap.size := ⟨_, rfl⟩;have O : Own w.heap.size w [.blk sb (.cells (shpV At ct Aw cw Ai ci s) 64)] X := by
    have h := (Own.start w).alloc (.cells (shpV At ct Aw cw Ai ci s) 64);rw [hX, hsb]; simpa using h
  obtain ⟨z1, hz1⟩ : ∃ z, z = curveB s.thr := ⟨_, rfl⟩;obtain ⟨z2, hz2⟩ : ∃ z, z = curveB s.wat := ⟨_, rfl⟩;obtain ⟨z3, hz3⟩ : ∃ z, z = curveB s.ice := ⟨_, rfl⟩;have k1 : ∀ wx, Below w.heap.size w wx → Calls Tryz.prog 102 #[.slice At s.thr.length ct] wx fun e w' => e = .returned (.bool z1) ∧ Below wx.heap.size wx w' := fun wx hb => by rw [hz1]; exact r3curve_any At ct s.thr wx (R.below hb).rt R.l1
  have k2 : ∀ wx, Below w.heap.size w wx → Calls Tryz.prog 102 #[.slice Aw s.wat.length cw] wx fun e w' => e = .returned (.bool z2) ∧ Below wx.heap.size wx w' := fun wx hb => by rw [hz2]; exact r3curve_any Aw cw s.wat wx (R.below hb).rw_ R.l2
  have k3 : ∀ wx, Below w.heap.size w wx → Calls Tryz.prog 102 #[.slice Ai s.ice.length ci] wx fun e w' => e = .returned (.bool z3) ∧ Below wx.heap.size wx w' := fun wx hb => by rw [hz3]; exact r3curve_any Ai ci s.ice wx (R.below hb).ri R.l3
  have HK := Lib.hid (And.intro k1 (And.intro k2 k3));have HZ := Lib.hid (And.intro hz1 (And.intro hz2 hz3));have H0 := Lib.hid (And.intro O R);have hh := O.heap 0 rfl;have c0 := (cOH hh 0).trans rfl;have c1 := (cOH hh 1).trans rfl;have c2 := (cOH hh 2).trans rfl;have c3 := (cOH hh 3).trans rfl;have c4 := (cOH hh 4).trans rfl;have c7 := (cOH hh 7).trans rfl;have c8 := (cOH hh 8).trans rfl;have c9 := (cOH hh 9).trans rfl;have c10 := (cOH hh 10).trans rfl;have zs := hL_ hh;clear k1 k2 k3 hz1 hz2 hz3 O R hh
  go_enter Tryz.func88, Tryz.ntmps88
  go_upto_region 1 with fail
  rw [← hX, ← hsb];clear hX hsb;cases h0 : within s.cls 1 6
  · go_wp2_with (go_at_call 90; refine (r3in_any _ _ _ _).mono ?_; rintro e w' ⟨rfl, rfl⟩)
    go_ret;exact ⟨by rw [ship_no (k := 0) (by decide) (fun j hj => absurd hj (by omega)) h0]; rfl, H0.out.1.bel⟩
  · have h0 : ruleB s 0 = true := h0;go_upto_region 3 with (go_at_call 90; refine (r3in_any _ _ _ _).mono ?_; rintro e w' ⟨rfl, rfl⟩)
    cases h10 : within s.pow 100 100000
    · go_wp2_with (go_at_call 90; refine (r3in_any _ _ _ _).mono ?_; rintro e w' ⟨rfl, rfl⟩)
      go_ret;exact ⟨by rw [ship40 (k := 1) h0 (by decide) (by decide) (by unfold ruleB; rw [h10]; simp)]; rfl, H0.out.1.bel⟩
    ·
      cases h11 : within s.dra 10 2000
      · go_wp2_with (go_at_call 90; refine (r3in_any _ _ _ _).mono ?_; rintro e w' ⟨rfl, rfl⟩)
        go_ret;exact ⟨by rw [ship40 (k := 1) h0 (by decide) (by decide) (by unfold ruleB; rw [h11]; simp)]; rfl, H0.out.1.bel⟩
      ·
        cases h12 : within s.ton 10 500000
        · go_wp2_with (go_at_call 90; refine (r3in_any _ _ _ _).mono ?_; rintro e w' ⟨rfl, rfl⟩)
          go_ret;exact ⟨by rw [ship40 (k := 1) h0 (by decide) (by decide) (by unfold ruleB; rw [h12]; simp)]; rfl, H0.out.1.bel⟩
        ·
          go_upto_region 5 with (go_at_call 90; refine (r3in_any _ _ _ _).mono ?_; rintro e w' ⟨rfl, rfl⟩)
          have HG1 : ruleB s 1 = true := by unfold ruleB; rw [h10, h11, h12]; rfl
          have HG1 := Lib.hid HG1;clear h10 h11 h12 c1 c2 c3 c0;cases h20 : within s.slow 0 20
          · go_wp2_with (go_at_call 90; refine (r3in_any _ _ _ _).mono ?_; rintro e w' ⟨rfl, rfl⟩)
            go_ret;exact ⟨by rw [ship40 (k := 2) h0 (by decide) (by decide) (by unfold ruleB; rw [h20]; simp)]; rfl, H0.out.1.bel⟩
          ·
            cases h21 : within s.brash 0 100
            · go_wp2_with (go_at_call 90; refine (r3in_any _ _ _ _).mono ?_; rintro e w' ⟨rfl, rfl⟩)
              go_ret;exact ⟨by rw [ship40 (k := 2) h0 (by decide) (by decide) (by unfold ruleB; rw [h21]; simp)]; rfl, H0.out.1.bel⟩
            ·
              cases h22 : within s.ridge 0 500
              · go_wp2_with (go_at_call 90; refine (r3in_any _ _ _ _).mono ?_; rintro e w' ⟨rfl, rfl⟩)
                go_ret;exact ⟨by rw [ship40 (k := 2) h0 (by decide) (by decide) (by unfold ruleB; rw [h22]; simp)]; rfl, H0.out.1.bel⟩
              ·
                cases h23 : within s.press 0 5000
                · go_wp2_with (go_at_call 90; refine (r3in_any _ _ _ _).mono ?_; rintro e w' ⟨rfl, rfl⟩)
                  go_ret;exact ⟨by rw [ship40 (k := 2) h0 (by decide) (by decide) (by unfold ruleB; rw [h23]; simp)]; rfl, H0.out.1.bel⟩
                ·
                  go_upto_region 7 with (go_at_call 90; refine (r3in_any _ _ _ _).mono ?_; rintro e w' ⟨rfl, rfl⟩)
                  have HG2 : ruleB s 2 = true := by unfold ruleB; rw [h20, h21, h22, h23]; rfl
                  have HG := Lib.hid (And.intro HG1.out HG2);clear h20 h21 h22 h23 c7 c8 c9 c10 HG1 HG2;cases z1
                  · go_wp2_with (first | (go_at_call 102; with_reducible refine (HK.out.1 _ H0.out.1.bel).mono ?_; rintro e w' ⟨rfl, b1⟩; have O1 := H0.out.1.below b1; have d5 := (cOH (O1.heap 0 rfl) 5).trans rfl; have z1s := hL_ (O1.heap 0 rfl); have P1 := Lib.hid O1; clear b1 O1))
                    go_ret;exact ⟨by rw [ship40 (k := 3) h0 (by decide) (by decide) (by unfold ruleB steadyB; rw [← HZ.out.1]; simp)]; rfl, P1.out.bel⟩
                  ·
                    cases z2
                    · go_wp2_with (first | (go_at_call 102; with_reducible refine (HK.out.1 _ H0.out.1.bel).mono ?_; rintro e w' ⟨rfl, b1⟩; have O1 := H0.out.1.below b1; have d5 := (cOH (O1.heap 0 rfl) 5).trans rfl; have z1s := hL_ (O1.heap 0 rfl); have P1 := Lib.hid O1; clear b1 O1) | (go_at_call 102; with_reducible refine (HK.out.2.1 _ P1.out.bel).mono ?_; rintro e w' ⟨rfl, b1⟩; have O2 := P1.out.below b1; have d6 := (cOH (O2.heap 0 rfl) 6).trans rfl; have z2s := hL_ (O2.heap 0 rfl); have P2 := Lib.hid O2; clear b1 O2))
                      go_ret;exact ⟨by rw [ship40 (k := 4) h0 (by decide) (by decide) (by unfold ruleB steadyB; rw [← HZ.out.2.1]; simp)]; rfl, P2.out.bel⟩
                    ·
                      cases z3
                      · go_wp2_with (first | (go_at_call 102; with_reducible refine (HK.out.1 _ H0.out.1.bel).mono ?_; rintro e w' ⟨rfl, b1⟩; have O1 := H0.out.1.below b1; have d5 := (cOH (O1.heap 0 rfl) 5).trans rfl; have z1s := hL_ (O1.heap 0 rfl); have P1 := Lib.hid O1; clear b1 O1) | (go_at_call 102; with_reducible refine (HK.out.2.1 _ P1.out.bel).mono ?_; rintro e w' ⟨rfl, b1⟩; have O2 := P1.out.below b1; have d6 := (cOH (O2.heap 0 rfl) 6).trans rfl; have z2s := hL_ (O2.heap 0 rfl); have P2 := Lib.hid O2; clear b1 O2) | (go_at_call 102; with_reducible refine (HK.out.2.2 _ P2.out.bel).mono ?_; rintro e w' ⟨rfl, b1⟩; have O3 := P2.out.below b1; have P3 := Lib.hid O3; clear b1 O3))
                        go_ret;exact ⟨by rw [ship40 (k := 5) h0 (by decide) (by decide) (by unfold ruleB steadyB; rw [← HZ.out.2.2]; simp)]; rfl, P3.out.bel⟩
                      ·
                        go_upto_region 9 with (first | (go_at_call 102; with_reducible refine (HK.out.1 _ H0.out.1.bel).mono ?_; rintro e w' ⟨rfl, b1⟩; have O1 := H0.out.1.below b1; have d5 := (cOH (O1.heap 0 rfl) 5).trans rfl; have z1s := hL_ (O1.heap 0 rfl); have P1 := Lib.hid O1; clear b1 O1) | (go_at_call 102; with_reducible refine (HK.out.2.1 _ P1.out.bel).mono ?_; rintro e w' ⟨rfl, b1⟩; have O2 := P1.out.below b1; have d6 := (cOH (O2.heap 0 rfl) 6).trans rfl; have z2s := hL_ (O2.heap 0 rfl); have P2 := Lib.hid O2; clear b1 O2) | (go_at_call 102; with_reducible refine (HK.out.2.2 _ P2.out.bel).mono ?_; rintro e w' ⟨rfl, b1⟩; have O3 := P2.out.below b1; have P3 := Lib.hid O3; clear b1 O3))
                        clear c4 zs d5 z1s d6 z2s;have l0 := (curveB_crv HZ.out.1.symm);have m0 := l0.1.two;have e0 := l0.2;obtain ⟨b0, o0, rfl, hb0, hc0⟩ := H0.out.2.rt.2 (by omega);have C0 := Lib.hid (And.intro hc0 l0);clear l0 hc0;have l1 := (curveB_crv HZ.out.2.1.symm);have m1 := l1.1.two;have e1 := l1.2;obtain ⟨b1, o1, rfl, hb1, hc1⟩ := H0.out.2.rw_.2 (by omega);have C1 := Lib.hid (And.intro hc1 l1);clear l1 hc1;have l2 := (curveB_crv HZ.out.2.2.symm);have m2 := l2.1.two;have e2 := l2.2;obtain ⟨b2, o2, rfl, hb2, hc2⟩ := H0.out.2.ri.2 (by omega);have C2 := Lib.hid (And.intro hc2 l2);clear l2 hc2;go_wp2_with fail
                        go_loopg [3] (s.thr.length - 1) (fun g i wr => ∃ k : Nat, g + k + 1 = s.thr.length ∧ i = .int .i64 ((k + 1 : Nat) : Int) ∧ (∀ j (h : j + 1 < s.thr.length), j < k → s.thr[j + 1].y ≤ s.thr[j].y) ∧ Own w.heap.size w [.blk sb (.cells (shpV (some ⟨b0, o0, none⟩) ct (some ⟨b1, o1, none⟩) cw (some ⟨b2, o2, none⟩) ci s) 64)] wr)
                        case atStart => exact ⟨0, by omega, rfl, fun _ _ h => by omega, P3.out⟩
                        case round =>
                          obtain ⟨k, hk, rfl, hp, oo⟩ := hrel;have hh := oo.heap 0 rfl;have c4 := (cOH hh 4).trans rfl;have c5 := (cOH hh 5).trans rfl;have c6 := (cOH hh 6).trans rfl;have zs := hL_ hh;have Q0 := Lib.hid (And.intro hp oo);clear hp oo hh;by_cases hlt : k + 1 < s.thr.length
                          · have g0 := (pnts_get (l := s.thr) (k := k) (by omega)).2;have g1 := (pnts_get (l := s.thr) (k := k + 1) hlt).2;have zb : b0 < wr.heap.size := Nat.lt_of_lt_of_le hb0 Q0.out.2.bel.size;have q0 : wr.cell? ⟨b0, o0 + k * 2 + 1, none⟩ = some (.int .i64 (s.thr[k]'(by omega)).y) := (Q0.out.2.bel.cell (p := ⟨b0, o0 + k * 2 + 1, none⟩) hb0).trans (by rw [Nat.add_assoc]; exact C0.out.1 _ _ g0);have q1 : wr.cell? ⟨b0, o0 + (k + 1) * 2 + 1, none⟩ = some (.int .i64 s.thr[k + 1].y) := (Q0.out.2.bel.cell (p := ⟨b0, o0 + (k + 1) * 2 + 1, none⟩) hb0).trans (by rw [Nat.add_assoc]; exact C0.out.1 _ _ g1);obtain ⟨y0, hy0⟩ : ∃ y, y = (s.thr[k]'(by omega)).y := ⟨_, rfl⟩;obtain ⟨y1, hy1⟩ : ∃ y, y = s.thr[k + 1].y := ⟨_, rfl⟩;rw [← hy0] at q0;rw [← hy1] at q1;have HY := Lib.hid (And.intro hy0 hy1);have hkk : ((k + 1 : Nat) : Int) - 1 = (k : Int) := by omega
                            clear g0 g1 hy0 hy1;by_cases hn : y0 < y1
                            · have d1 : decide (y0 < y1) = true := decide_eq_true hn;go_wp2_with fail
                              go_quiet (fail);go_wp2_with fail
                              go_ret;exact ⟨by rw [ship40 (k := 3) h0 (by decide) (by decide) (by unfold ruleB steadyB; rw [wayB_no (j := k) hlt (by rw [← HY.out.1, ← HY.out.2]; omega)]; simp)]; rfl, below_drewN Q0.out.2.bel _⟩
                            · have d1 : decide (y0 < y1) = false := decide_eq_false hn;go_wp2_with fail
                              go_quiet (fail);go_wp2_with fail
                              go_roundg (gk - 1);case measure => omega
                              case rel =>
                                refine ⟨k + 1, by omega, by go_num, fun j h h2 => ?_, Q0.out.2.below (below_drewN (Below.refl _ _) _)⟩;by_cases hj : j = k
                                · subst hj;rw [← HY.out.1, ← HY.out.2]; omega
                                · exact Q0.out.1 j h (by omega)
                          · have hkl : s.thr.length = k + 1 := by omega
                            have w0 : wayB (-1) s.thr = true := wayB_adj (fun j hj => by have := Q0.out.1 j hj (by omega); omega);have W0 := Lib.hid w0;clear w0 hk hkl;go_upto_region 14 with fail
                            clear c4 c5 c6 zs hlt;go_wp2_with fail
                            go_loopg [4] (s.wat.length - 1) (fun g i wr => ∃ k : Nat, g + k + 1 = s.wat.length ∧ i = .int .i64 ((k + 1 : Nat) : Int) ∧ (∀ j (h : j + 1 < s.wat.length), j < k → s.wat[j].y ≤ s.wat[j + 1].y) ∧ Own w.heap.size w [.blk sb (.cells (shpV (some ⟨b0, o0, none⟩) ct (some ⟨b1, o1, none⟩) cw (some ⟨b2, o2, none⟩) ci s) 64)] wr)
                            case atStart => exact ⟨0, by omega, rfl, fun _ _ h => by omega, Q0.out.2⟩
                            case round =>
                              obtain ⟨k, hk, rfl, hp, oo⟩ := hrel;have hh := oo.heap 0 rfl;have c4 := (cOH hh 4).trans rfl;have c5 := (cOH hh 5).trans rfl;have c6 := (cOH hh 6).trans rfl;have zs := hL_ hh;have Q1 := Lib.hid (And.intro hp oo);clear hp oo hh;by_cases hlt : k + 1 < s.wat.length
                              · have g0 := (pnts_get (l := s.wat) (k := k) (by omega)).2;have g1 := (pnts_get (l := s.wat) (k := k + 1) hlt).2;have zb : b1 < wr.heap.size := Nat.lt_of_lt_of_le hb1 Q1.out.2.bel.size;have q0 : wr.cell? ⟨b1, o1 + k * 2 + 1, none⟩ = some (.int .i64 (s.wat[k]'(by omega)).y) := (Q1.out.2.bel.cell (p := ⟨b1, o1 + k * 2 + 1, none⟩) hb1).trans (by rw [Nat.add_assoc]; exact C1.out.1 _ _ g0);have q1 : wr.cell? ⟨b1, o1 + (k + 1) * 2 + 1, none⟩ = some (.int .i64 s.wat[k + 1].y) := (Q1.out.2.bel.cell (p := ⟨b1, o1 + (k + 1) * 2 + 1, none⟩) hb1).trans (by rw [Nat.add_assoc]; exact C1.out.1 _ _ g1);obtain ⟨y0, hy0⟩ : ∃ y, y = (s.wat[k]'(by omega)).y := ⟨_, rfl⟩;obtain ⟨y1, hy1⟩ : ∃ y, y = s.wat[k + 1].y := ⟨_, rfl⟩;rw [← hy0] at q0;rw [← hy1] at q1;have HY := Lib.hid (And.intro hy0 hy1);have hkk : ((k + 1 : Nat) : Int) - 1 = (k : Int) := by omega
                                clear g0 g1 hy0 hy1;by_cases hn : y1 < y0
                                · have d1 : decide (y1 < y0) = true := decide_eq_true hn;go_wp2_with fail
                                  go_quiet (fail);go_wp2_with fail
                                  go_ret;exact ⟨by rw [ship40 (k := 4) h0 (by decide) (by decide) (by unfold ruleB steadyB; rw [wayB_no (j := k) hlt (by rw [← HY.out.1, ← HY.out.2]; omega)]; simp)]; rfl, below_drewN Q1.out.2.bel _⟩
                                · have d1 : decide (y1 < y0) = false := decide_eq_false hn;go_wp2_with fail
                                  go_quiet (fail);go_wp2_with fail
                                  go_roundg (gk - 1);case measure => omega
                                  case rel =>
                                    refine ⟨k + 1, by omega, by go_num, fun j h h2 => ?_, Q1.out.2.below (below_drewN (Below.refl _ _) _)⟩;by_cases hj : j = k
                                    · subst hj;rw [← HY.out.1, ← HY.out.2]; omega
                                    · exact Q1.out.1 j h (by omega)
                              · have hkl : s.wat.length = k + 1 := by omega
                                have w1 : wayB 1 s.wat = true := wayB_adj (fun j hj => by have := Q1.out.1 j hj (by omega); omega);have W1 := Lib.hid w1;clear w1 hk hkl;go_upto_region 19 with fail
                                clear c4 c5 c6 zs hlt;go_wp2_with fail
                                go_loopg [5] (s.ice.length - 1) (fun g i wr => ∃ k : Nat, g + k + 1 = s.ice.length ∧ i = .int .i64 ((k + 1 : Nat) : Int) ∧ (∀ j (h : j + 1 < s.ice.length), j < k → s.ice[j].y ≤ s.ice[j + 1].y) ∧ Own w.heap.size w [.blk sb (.cells (shpV (some ⟨b0, o0, none⟩) ct (some ⟨b1, o1, none⟩) cw (some ⟨b2, o2, none⟩) ci s) 64)] wr)
                                case atStart => exact ⟨0, by omega, rfl, fun _ _ h => by omega, Q1.out.2⟩
                                case round =>
                                  obtain ⟨k, hk, rfl, hp, oo⟩ := hrel;have hh := oo.heap 0 rfl;have c4 := (cOH hh 4).trans rfl;have c5 := (cOH hh 5).trans rfl;have c6 := (cOH hh 6).trans rfl;have zs := hL_ hh;have Q2 := Lib.hid (And.intro hp oo);clear hp oo hh;by_cases hlt : k + 1 < s.ice.length
                                  · have g0 := (pnts_get (l := s.ice) (k := k) (by omega)).2;have g1 := (pnts_get (l := s.ice) (k := k + 1) hlt).2;have zb : b2 < wr.heap.size := Nat.lt_of_lt_of_le hb2 Q2.out.2.bel.size;have q0 : wr.cell? ⟨b2, o2 + k * 2 + 1, none⟩ = some (.int .i64 (s.ice[k]'(by omega)).y) := (Q2.out.2.bel.cell (p := ⟨b2, o2 + k * 2 + 1, none⟩) hb2).trans (by rw [Nat.add_assoc]; exact C2.out.1 _ _ g0);have q1 : wr.cell? ⟨b2, o2 + (k + 1) * 2 + 1, none⟩ = some (.int .i64 s.ice[k + 1].y) := (Q2.out.2.bel.cell (p := ⟨b2, o2 + (k + 1) * 2 + 1, none⟩) hb2).trans (by rw [Nat.add_assoc]; exact C2.out.1 _ _ g1);obtain ⟨y0, hy0⟩ : ∃ y, y = (s.ice[k]'(by omega)).y := ⟨_, rfl⟩;obtain ⟨y1, hy1⟩ : ∃ y, y = s.ice[k + 1].y := ⟨_, rfl⟩;rw [← hy0] at q0;rw [← hy1] at q1;have HY := Lib.hid (And.intro hy0 hy1);have hkk : ((k + 1 : Nat) : Int) - 1 = (k : Int) := by omega
                                    clear g0 g1 hy0 hy1;by_cases hn : y1 < y0
                                    · have d1 : decide (y1 < y0) = true := decide_eq_true hn;go_wp2_with fail
                                      go_quiet (fail);go_wp2_with fail
                                      go_ret;exact ⟨by rw [ship40 (k := 5) h0 (by decide) (by decide) (by unfold ruleB steadyB; rw [wayB_no (j := k) hlt (by rw [← HY.out.1, ← HY.out.2]; omega)]; simp)]; rfl, below_drewN Q2.out.2.bel _⟩
                                    · have d1 : decide (y1 < y0) = false := decide_eq_false hn;go_wp2_with fail
                                      go_quiet (fail);go_wp2_with fail
                                      go_roundg (gk - 1);case measure => omega
                                      case rel =>
                                        refine ⟨k + 1, by omega, by go_num, fun j h h2 => ?_, Q2.out.2.below (below_drewN (Below.refl _ _) _)⟩;by_cases hj : j = k
                                        · subst hj;rw [← HY.out.1, ← HY.out.2]; omega
                                        · exact Q2.out.1 j h (by omega)
                                  · have hkl : s.ice.length = k + 1 := by omega
                                    have w2 : wayB 1 s.ice = true := wayB_adj (fun j hj => by have := Q2.out.1 j hj (by omega); omega);have W2 := Lib.hid w2;clear w2 hk hkl;go_upto_region 24 with fail
                                    obtain ⟨t0, ht0⟩ : ∃ m, s.thr.length = m + 1 := ⟨s.thr.length - 1, by omega⟩;obtain ⟨t1, ht1⟩ : ∃ m, s.wat.length = m + 1 := ⟨s.wat.length - 1, by omega⟩;obtain ⟨t2, ht2⟩ : ∃ m, s.ice.length = m + 1 := ⟨s.ice.length - 1, by omega⟩;have a0 : t0 < s.thr.length ∧ s.thr.length ≤ t0 + 1 := by omega
                                    have a1 : t1 < s.wat.length ∧ s.wat.length ≤ t1 + 1 := by omega
                                    have a2 : t2 < s.ice.length ∧ s.ice.length ≤ t2 + 1 := by omega
                                    have a3 : 0 < s.ice.length := by omega
                                    have n0 : ((s.thr.length : Nat) : Int) - 1 = (t0 : Int) := by omega
                                    have n1 : ((s.wat.length : Nat) : Int) - 1 = (t1 : Int) := by omega
                                    have n2 : ((s.ice.length : Nat) : Int) - 1 = (t2 : Int) := by omega
                                    have B := Q2.out.2.bel;have q0 := (B.cell (p := ⟨b0, o0 + t0 * 2, none⟩) hb0).trans (C0.out.1 _ _ (pnts_get (l := s.thr) (k := t0) a0.1).1);have q1 := (B.cell (p := ⟨b1, o1 + t1 * 2, none⟩) hb1).trans (C1.out.1 _ _ (pnts_get (l := s.wat) (k := t1) a1.1).1);have q2 := (B.cell (p := ⟨b2, o2 + t2 * 2, none⟩) hb2).trans (C2.out.1 _ _ (pnts_get (l := s.ice) (k := t2) a2.1).1);have q3 : wr.cell? ⟨b2, o2 + 1, none⟩ = some (.int .i64 (s.ice[0]'a3).y) := (B.cell (p := ⟨b2, o2 + 1, none⟩) hb2).trans (C2.out.1 1 _ (pnts_get (l := s.ice) (k := 0) a3).2);rw [← pts_end a0.1 a0.2] at q0;rw [← pts_end a1.1 a1.2] at q1;rw [← pts_end a2.1 a2.2] at q2;obtain ⟨u0, hu0⟩ : ∃ y, y = endX s.thr := ⟨_, rfl⟩;obtain ⟨u1, hu1⟩ : ∃ y, y = endX s.wat := ⟨_, rfl⟩;obtain ⟨u2, hu2⟩ : ∃ y, y = endX s.ice := ⟨_, rfl⟩;obtain ⟨u3, hu3⟩ : ∃ y, y = (s.ice[0]'a3).y := ⟨_, rfl⟩;rw [← hu0] at q0;rw [← hu1] at q1;rw [← hu2] at q2;rw [← hu3] at q3;have hd := head_get a3 ⟨0, 1⟩;have zb0 := Nat.lt_of_lt_of_le hb0 B.size;have zb1 := Nat.lt_of_lt_of_le hb1 B.size;have zb2 := Nat.lt_of_lt_of_le hb2 B.size;have HU := Lib.hid (And.intro (And.intro hu0 hu1) (And.intro hu2 (hu3.trans (congrArg Pnt.y hd.symm))));clear hu0 hu1 hu2 hu3 hd B ht0 ht1 ht2 hb0 hb1 hb2 hlt;cases g0 : within u0 10 250
                                    · go_wp2_with (go_at_call 90; refine (r3in_any _ _ _ _).mono ?_; rintro e w' ⟨rfl, rfl⟩)
                                      go_ret;exact ⟨by rw [ship40 (k := 3) h0 (by decide) (by decide) (by unfold ruleB; rw [← HU.out.1.1, g0]; simp)]; rfl, Q2.out.2.bel⟩
                                    ·
                                      by_cases g1 : 250 < u1
                                      · go_wp2_with (go_at_call 90; refine (r3in_any _ _ _ _).mono ?_; rintro e w' ⟨rfl, rfl⟩)
                                        go_ret;exact ⟨by rw [ship40 (k := 4) h0 (by decide) (by decide) (by unfold ruleB; rw [← HU.out.1.2, decide_eq_false (Int.not_le.2 g1)]; simp)]; rfl, Q2.out.2.bel⟩
                                      ·
                                        by_cases g2 : u3 = 0
                                        ·
                                          by_cases g3 : u2 = 400
                                          · subst g2;subst g3;go_wp2_with (go_at_call 90; refine (r3in_any _ _ _ _).mono ?_; rintro e w' ⟨rfl, rfl⟩)
                                            go_ret;exact ⟨by rw [ship_yes (fun j hj => by
                                              rcases (by omega : j = 0 ∨ j = 1 ∨ j = 2 ∨ j = 3 ∨ j = 4 ∨ j = 5) with rfl | rfl | rfl | rfl | rfl | rfl
                                              · exact h0
                                              · exact HG.out.1
                                              · exact HG.out.2
                                              · unfold ruleB steadyB; rw [← HZ.out.1, W0.out, ← HU.out.1.1, g0]; rfl
                                              · unfold ruleB steadyB; rw [← HZ.out.2.1, W1.out, ← HU.out.1.2, decide_eq_true g1]; rfl
                                              · unfold ruleB steadyB; rw [← HZ.out.2.2, W2.out, ← HU.out.2.1, ← HU.out.2.2]; rfl)]; rfl, Q2.out.2.bel⟩
                                          · subst g2;have g4 : (u2 != 400) = true := by simpa using g3
                                            go_wp2_with (go_at_call 90; refine (r3in_any _ _ _ _).mono ?_; rintro e w' ⟨rfl, rfl⟩)
                                            go_ret;exact ⟨by rw [ship40 (k := 5) h0 (by decide) (by decide) (by unfold ruleB; rw [← HU.out.2.1, decide_eq_false g3]; simp)]; rfl, Q2.out.2.bel⟩
                                        · have g4 : (u3 != 0) = true := by simpa using g2
                                          go_wp2_with (go_at_call 90; refine (r3in_any _ _ _ _).mono ?_; rintro e w' ⟨rfl, rfl⟩)
                                          go_ret;exact ⟨by rw [ship40 (k := 5) h0 (by decide) (by decide) (by unfold ruleB; rw [← HU.out.2.2, decide_eq_false g2]; simp)]; rfl, Q2.out.2.bel⟩
theorem r3asked_any (At : Option Addr) (ct : Nat) (Aw : Option Addr) (cw : Nat) (Ai : Option Addr) (ci : Nat) (s : Shp) (v : Int) (w : World) (R : ShR At Aw Ai s w) (hv : 0 ≤ v ∧ v ≤ 250) :
    Calls Tryz.prog 65 #[.agg (shpV At ct Aw cw Ai ci s), .agg #[.int .i64 0, .int .i64 0, .int .i64 0, .int .i64 0], .int .i64 v] w fun e w' => e = .returned (.int .i64 (shipE s)) ∧ Below w.heap.size w w' := by
  obtain ⟨X, hX⟩ : ∃ X, X = (w.alloc (.cells (shpV At ct Aw cw Ai ci s) 64)).alloc (.cells #[.int .i64 0, .int .i64 0, .int .i64 0, .int .i64 0] 150) := ⟨_, rfl⟩;obtain ⟨sb, hsb⟩ : ∃ b, b = w.heap.size := ⟨_, rfl⟩;obtain ⟨ib, hib⟩ : ∃ b, b = w.heap.size + 1 := ⟨_, rfl⟩;have O : Own w.heap.size w [.blk sb (.cells (shpV At ct Aw cw Ai ci s) 64), .blk ib (.cells #[.int .i64 0, .int .i64 0, .int .i64 0, .int .i64 0] 150)] X := by
    have h := ((Own.start w).alloc (.cells (shpV At ct Aw cw Ai ci s) 64)).alloc (.cells #[.int .i64 0, .int .i64 0, .int .i64 0, .int .i64 0] 150);rw [hX, hsb, hib]; simpa using h
  obtain ⟨e0, he⟩ : ∃ e, e = shipE s := ⟨_, rfl⟩;have k0 := r3check_any At ct Aw cw Ai ci s X (R.below O.bel);rw [← he] at k0;rw [← he];have hv2 : within v 0 250 = true := Pt.within_iff.2 hv;have HK := Lib.hid (And.intro k0 O);have hh := O.heap 0 rfl;have c0 := (cOH hh 0).trans rfl;have c1 := (cOH hh 1).trans rfl;have c2 := (cOH hh 2).trans rfl;have c3 := (cOH hh 3).trans rfl;have c4 := (cOH hh 4).trans rfl;have c5 := (cOH hh 5).trans rfl;have c6 := (cOH hh 6).trans rfl;have c7 := (cOH hh 7).trans rfl;have c8 := (cOH hh 8).trans rfl;have c9 := (cOH hh 9).trans rfl;have c10 := (cOH hh 10).trans rfl;have zs := hL_ hh;clear k0 O R he hh;by_cases h0 : e0 = 0
  · subst h0
    go_enter Tryz.func65, Tryz.ntmps65
    go_upto_region 1 with fail
    rw [← hX, ← hib, ← hsb];clear hX hsb hib;go_upto_region 4 with (go_at_call 88; refine HK.out.1.mono ?_; rintro e w' ⟨rfl, b1⟩; have O1 := Lib.hid (HK.out.2.below b1); clear b1)
    clear c0 c1 c2 c3 c4 c5 c6 c7 c8 c9 c10 zs;have hi := O1.out.heap 1 rfl;have i0 := (cOH hi 0).trans rfl;have i1 := (cOH hi 1).trans rfl;have i2 := (cOH hi 2).trans rfl;have i3 := (cOH hi 3).trans rfl;have zi := hL_ hi;clear hi;have kw := fun wx => r3whole_any ⟨0, 0, 0, 0⟩ wx;have hw : (within 0 0 100 && within 0 0 400 && within 0 0 100 && within 0 0 3) = true := by decide
    simp only [hw] at kw;have KW := Lib.hid kw;clear kw hw;go_wp2_with (first | (go_at_call 89; refine (KW.out _).mono ?_; rintro e w' ⟨rfl, b1⟩; have O2 := Lib.hid (O1.out.below b1); clear b1) | (go_at_call 90; refine (r3in_any _ _ _ _).mono ?_; rintro e w' ⟨rfl, rfl⟩))
    go_ret;exact ⟨rfl, O2.out.bel⟩
  · have h1 : (e0 != 0) = true := by simpa using h0
    go_enter Tryz.func65, Tryz.ntmps65
    go_upto_region 1 with fail
    rw [← hX, ← hib, ← hsb];clear hX hsb hib;go_wp2_with (go_at_call 88; refine HK.out.1.mono ?_; rintro e w' ⟨rfl, b1⟩; have O1 := Lib.hid (HK.out.2.below b1); clear b1)
    go_ret;exact ⟨rfl, O1.out.bel⟩
def limN (s : Shp) : Int := limR (fun n => makR s n 10) 401
def limV (s : Shp) : Int := if shipE s = 0 then (if limN s < 0 then 0 else limN s) else 0
def limE (s : Shp) : Int := if shipE s = 0 then (if limN s < 0 then 4 else 0) else shipE s
theorem lim_post {s : Shp} {t k : Int} (h : (k = 0 ∧ shipE s = 0 ∧ Grt (fun n => makes s (lvl n) true 10) 0 400 t) ∨ (k = 4 ∧ shipE s = 0 ∧ makes s (lvl 0) true 10 = false ∧ t = 0) ∨ (k = shipE s ∧ k ≠ 0 ∧ t = 0)) : t = limV s ∧ k = limE s := by
  rcases h with ⟨rfl, h0, hg⟩ | ⟨rfl, h0, hm, rfl⟩ | ⟨rfl, h0, rfl⟩
  · have ok := (shipE_ok h0).1;have e : limN s = t := limR_grt ⟨hg.ge, hg.le, by rw [makR_eq ok ⟨hg.ge, hg.le⟩ (by decide)]; exact hg.yes, fun n h1 h2 => by rw [makR_eq ok ⟨by have := hg.ge; omega, h2⟩ (by decide)]; exact hg.no n h1 h2⟩;have := hg.ge;unfold limV limE;rw [if_pos h0, if_pos h0, e, if_neg (by omega), if_neg (by omega)];exact ⟨rfl, rfl⟩
  · have ok := (shipE_ok h0).1;have e : limN s = -1 := by
      rcases limR_spec (fun n => makR s n 10) 401 with h | ⟨r, h1, h2, h3, h4⟩
      · exact h.1
      · rw [makR_eq ok ⟨by omega, by omega⟩ (by decide)] at h3;have := makes_t ok (con := 100) (rid := 0) (prs := 0) (by decide) true (v := 10) (by decide) (t := 0) (u := (r : Int)) (by decide) (by omega) (by decide) h3;unfold lvl at hm;rw [this] at hm; cases hm
    unfold limV limE;rw [if_pos h0, if_pos h0, e];exact ⟨rfl, rfl⟩
  · unfold limV limE;rw [if_neg h0, if_neg h0];exact ⟨rfl, rfl⟩
theorem r3limit_any (At : Option Addr) (ct : Nat) (Aw : Option Addr) (cw : Nat) (Ai : Option Addr) (ci : Nat) (s : Shp) (w : World) (R : ShR At Aw Ai s w) :
    Calls Tryz.prog 38 #[.agg (shpV At ct Aw cw Ai ci s), .int .i64 10, .bool true] w fun e w' => e = .returned (.tuple #[.int .i64 (limV s), .int .i64 (limE s)]) ∧ Below w.heap.size w w' := by
  obtain ⟨X, hX⟩ : ∃ X, X = w.alloc (.cells (shpV At ct Aw cw Ai ci s) 64) := ⟨_, rfl⟩;obtain ⟨sb, hsb⟩ : ∃ b, b = w.heap.size := ⟨_, rfl⟩;have O : Own w.heap.size w [.blk sb (.cells (shpV At ct Aw cw Ai ci s) 64)] X := by
    have h := (Own.start w).alloc (.cells (shpV At ct Aw cw Ai ci s) 64);rw [hX, hsb]; simpa using h
  obtain ⟨e0, he⟩ : ∃ e, e = shipE s := ⟨_, rfl⟩;have k0 := r3asked_any At ct Aw cw Ai ci s 10 X (R.below O.bel) (by decide);rw [← he] at k0;obtain ⟨V, hV⟩ : ∃ y, y = limV s := ⟨_, rfl⟩;obtain ⟨E, hE⟩ : ∃ y, y = limE s := ⟨_, rfl⟩;rw [← hV, ← hE];have HV := Lib.hid (And.intro hV hE);clear hV hE;have HK := Lib.hid (And.intro k0 O);have hh := O.heap 0 rfl;have c0 := (cOH hh 0).trans rfl;have c1 := (cOH hh 1).trans rfl;have c2 := (cOH hh 2).trans rfl;have c3 := (cOH hh 3).trans rfl;have c4 := (cOH hh 4).trans rfl;have c5 := (cOH hh 5).trans rfl;have c6 := (cOH hh 6).trans rfl;have c7 := (cOH hh 7).trans rfl;have c8 := (cOH hh 8).trans rfl;have c9 := (cOH hh 9).trans rfl;have c10 := (cOH hh 10).trans rfl;have zs := hL_ hh;have HE := Lib.hid (And.intro he R);clear k0 O R he hh;by_cases h0 : e0 = 0
  · subst h0;have ok := shipE_ok HE.out.1.symm;have SL : ShL s := ⟨ok.1, ok.2.2.2.2.2.1, ok.2.2.2.2.2.2.1, ok.2.2.2.2.2.2.2.1, ok.2.2.1⟩;have km : ∀ n : Nat, n ≤ 400 → ∀ wx, Below w.heap.size w wx → Calls Tryz.prog 66 #[.agg (shpV At ct Aw cw Ai ci s), .agg (lvlV n), .int .i64 10, .bool true] wx fun e w' => e = .returned (.bool (makR s n 10)) ∧ Below wx.heap.size wx w' := fun n hn wx hb => r3makes_any At ct Aw cw Ai ci s n 10 wx (HE.out.2.below hb) SL (by decide) (by omega);have HM := Lib.hid km;clear ok SL km
    go_enter Tryz.func38, Tryz.ntmps38
    go_upto_region 1 with fail
    rw [← hX, ← hsb];clear hX hsb;go_upto_region 4 with (go_at_call 65; refine HK.out.1.mono ?_; rintro e w' ⟨rfl, b1⟩; have O1 := Lib.hid (HK.out.2.below b1); clear b1)
    clear c0 c1 c2 c3 c4 c5 c6 c7 c8 c9 c10 zs;go_wp2_with fail
    go_loopg [9, 10] (401) (fun g o i wr => ∃ k : Nat, g + k = 401 ∧ i = .int .i64 k ∧ o = .int .i64 (limR (fun n => makR s n 10) k) ∧ Own w.heap.size w [.blk sb (.cells (shpV At ct Aw cw Ai ci s) 64)] wr)
    case atStart => exact ⟨0, rfl, rfl, rfl, O1.out⟩
    case round =>
      obtain ⟨k, hk, rfl, rfl, oo⟩ := hrel;have hh := oo.heap 0 rfl;have Q := Lib.hid oo;clear oo;by_cases hlt : k < 401
      · have c0 := (cOH hh 0).trans rfl;have c1 := (cOH hh 1).trans rfl;have c2 := (cOH hh 2).trans rfl;have c3 := (cOH hh 3).trans rfl;have c4 := (cOH hh 4).trans rfl;have c5 := (cOH hh 5).trans rfl;have c6 := (cOH hh 6).trans rfl;have c7 := (cOH hh 7).trans rfl;have c8 := (cOH hh 8).trans rfl;have c9 := (cOH hh 9).trans rfl;have c10 := (cOH hh 10).trans rfl;have zs := hL_ hh;obtain ⟨z, hz⟩ : ∃ z, z = makR s k 10 := ⟨_, rfl⟩;have km := HM.out k (by omega) wr Q.out.bel;rw [← hz] at km;have hs : limR (fun n => makR s n 10) (k + 1) = if z then (k : Int) else limR (fun n => makR s n 10) k := by rw [hz]; rfl
        generalize limR (fun n => makR s n 10) k = L at hs ⊢;have HZ := Lib.hid (And.intro km hs);have hle : k ≤ 400 := by omega
        clear km hs hz hh;cases z
        · go_wp2_with (go_at_call 66; refine HZ.out.1.mono ?_; rintro e w' ⟨rfl, b1⟩; have O2 := Lib.hid (Q.out.below b1); clear b1)
          go_roundg (gk - 1);case measure => omega
          case rel => exact ⟨k + 1, by omega, by go_num, by rw [HZ.out.2]; rfl, O2.out⟩
        · go_wp2_with (go_at_call 66; refine HZ.out.1.mono ?_; rintro e w' ⟨rfl, b1⟩; have O2 := Lib.hid (Q.out.below b1); clear b1)
          go_roundg (gk - 1);case measure => omega
          case rel => exact ⟨k + 1, by omega, by go_num, by rw [HZ.out.2]; rfl, O2.out⟩
      · obtain rfl : k = 401 := by omega
        have hn : limR (fun n => makR s n 10) 401 = limN s := rfl;rw [hn];clear hn hh;obtain ⟨L, hL0⟩ : ∃ L, L = limN s := ⟨_, rfl⟩;rw [← hL0];have HL := Lib.hid hL0;clear hL0;by_cases hL : L < 0
        · go_wp2_with fail
          go_ret2
          exact ⟨by rw [HV.out.1, HV.out.2]; unfold limV limE; rw [if_pos HE.out.1.symm, if_pos HE.out.1.symm, ← HL.out, if_pos hL, if_pos hL]; rfl, Q.out.bel⟩
        · go_wp2_with fail
          go_ret2
          exact ⟨by rw [HV.out.1, HV.out.2]; unfold limV limE; rw [if_pos HE.out.1.symm, if_pos HE.out.1.symm, ← HL.out, if_neg (Int.not_lt.2 hL), if_neg (Int.not_lt.2 hL)]; rfl, Q.out.bel⟩
  · have h1 : (e0 != 0) = true := by simpa using h0
    go_enter Tryz.func38, Tryz.ntmps38
    go_upto_region 1 with fail
    rw [← hX, ← hsb];clear hX hsb;go_wp2_with (go_at_call 65; refine HK.out.1.mono ?_; rintro e w' ⟨rfl, b1⟩; have O1 := Lib.hid (HK.out.2.below b1); clear b1)
    go_ret2
    exact ⟨by rw [HV.out.1, HV.out.2]; unfold limV limE; rw [← HE.out.1, if_neg h0, if_neg h0]; rfl, O1.out.bel⟩
theorem rtakes_any (At : Option Addr) (ct : Nat) (Aw : Option Addr) (cw : Nat) (Ai : Option Addr) (ci : Nat) (s : Shp) (w : World) (R : ShR At Aw Ai s w) :
    Calls Tryz.prog 12 #[.agg (shpV At ct Aw cw Ai ci s)] w fun e w' => e = .returned (.tuple #[.int .i64 (limV s), .int .i64 (limE s)]) ∧ Below w.heap.size w w' := by
  obtain ⟨X, hX⟩ : ∃ X, X = w.alloc (.cells (shpV At ct Aw cw Ai ci s) 64) := ⟨_, rfl⟩;obtain ⟨sb, hsb⟩ : ∃ b, b = w.heap.size := ⟨_, rfl⟩;have O : Own w.heap.size w [.blk sb (.cells (shpV At ct Aw cw Ai ci s) 64)] X := by
    have h := (Own.start w).alloc (.cells (shpV At ct Aw cw Ai ci s) 64);rw [hX, hsb]; simpa using h
  have HK := Lib.hid (And.intro (r3limit_any At ct Aw cw Ai ci s X (R.below O.bel)) O);have hh := O.heap 0 rfl;have c0 := (cOH hh 0).trans rfl;have c1 := (cOH hh 1).trans rfl;have c2 := (cOH hh 2).trans rfl;have c3 := (cOH hh 3).trans rfl;have c4 := (cOH hh 4).trans rfl;have c5 := (cOH hh 5).trans rfl;have c6 := (cOH hh 6).trans rfl;have c7 := (cOH hh 7).trans rfl;have c8 := (cOH hh 8).trans rfl;have c9 := (cOH hh 9).trans rfl;have c10 := (cOH hh 10).trans rfl;have zs := hL_ hh;clear O R hh
  go_enter Tryz.func12, Tryz.ntmps12
  go_upto_region 1 with fail
  rw [← hX, ← hsb];clear hX hsb;go_wp2_with (go_at_call 38; refine HK.out.1.mono ?_; rintro e w' ⟨rfl, b1⟩; have O1 := Lib.hid (HK.out.2.below b1); clear b1)
  go_ret2
  exact ⟨rfl, O1.out.bel⟩
end Go.Proofs.YtalcinepeofmcaaGreat
namespace Go.Proofs.YtalcinepeofmcaaGreat
open Go Go.RowKit Sp
theorem infoPnt : (Tryz.prog.info? 107).map (fun i => (i.zero, i.size, i.bytes)) = some (some (.agg #[.int .i64 0, .int .i64 0]), 2, 16) := by kernel_rfl
theorem clonePnt_any (A : Option Addr) (n c : Nat) (xs : List Value) (w : World) (hr : Rd w 2 A n xs) (h1 : ∀ u ∈ xs, u.oneCell' = true) (hc : A = none → n = 0 ∧ c = 0) (hl : n ≤ 100000000) :
    Calls Tryz.prog 37 #[.slice A n c] w (CloneS w 107 2 n xs) := by
  obtain ⟨i0, hi, hz0, hz1, hz2⟩ := info_parts infoPnt;have hnil := fun (w : World) (a : Option Addr) (n c : Nat) => Lib.run_eql_slice_nil (P := Tryz.prog) w 28 107 a n c 0 0 Tryz.underlying28;cases A with
  | none =>
    obtain ⟨rfl, rfl⟩ := hc rfl;obtain rfl : xs = [] := List.eq_nil_of_length_eq_zero (by have := hr.1; omega)
    go_enter Tryz.func37, Tryz.ntmps37
    go_wp2_with fail
    go_ret;exact ⟨none, 0, [], rfl, OwnS.nil _ _ _, by simp, Below.refl _ _⟩
  | some ad =>
    have HR := Lib.hid (And.intro hr h1);clear hr hc h1
    go_enter Tryz.func37, Tryz.ntmps37
    go_wp2_with (at_builtin
                 refine wpList_append_M rfl (.tmp 5) (.tmp 6) 28 rfl i0 _ 16 Tryz.underlying28 hi hz0 hz1 hz2 rfl (A := some ⟨w.heap.size, 0, none⟩) (n := 0) (c := 0) (B := some ad) (m := n) (d := c) (xs := []) (fp := [w.heap.size]) (ys := xs) (by simp [Act.eval]) (by simp [Act.eval]) ⟨by simp, .inr ⟨_, _, rfl, rfl, heap_alloc_new w _, by omega, by omega, rfl, by simp⟩⟩ (HR.out.1.below ((Below.refl _ _).alloc (Nat.le_refl _) _)) HR.out.2 (by omega) (by omega) ?_;intro A' c' w' fp' h1 h2 h3;have HQ := Lib.hid (And.intro h1 (And.intro h2 h3));clear h1 h2 h3)
    go_ret;obtain ⟨h1, h2, h3⟩ := HQ.out;refine ⟨A', c', fp', by simp, by simpa using h1, fun g hg => ?_, ((Below.refl w.heap.size w).alloc (Nat.le_refl _) _).trans (h3.below (by simp) (by simp))⟩;rcases h2 g hg with h | h
    · simp at h; omega
    · simp at h; omega
end Go.Proofs.YtalcinepeofmcaaGreat
