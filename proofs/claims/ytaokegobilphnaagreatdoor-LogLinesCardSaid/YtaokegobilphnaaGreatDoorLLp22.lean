/- (*log.charting).due (printed by tools/lgx.py) -/
import Derived.Test.YtaokegobilphnaaGreatDoorLLp21
import Derived.Test.YtaokegobilphnaaGreatDoorLLp12
set_option linter.unusedVariables false
set_option linter.unusedSimpArgs false
namespace Go.Proofs.YtaokegobilphnaaGreatDoor
open Go Go.RowKit Go.Shelf Go.Proofs Sp Lg
set_option linter.unusedVariables false
set_option linter.unusedSimpArgs false

/-- while a chart's first line is read -/
structure DcA (w0 W : World) (L : List By) (hb r4 r5 fb db i : Nat) (more : List It) (wr : World) : Prop where
  o : Own w0.heap.size w0 ([.blk hb (.cells #[.int .i64 0, .int .i64 0, .int .i64 0, .slice none 0 0] 157), .any r4, .any r5, .any fb, .blk db (.cells #[.pointer (some ⟨fb, 0, none⟩)] 184)] ++ more) wr
  f : FeedS (fb :: [hb]) W.heap.size fb i (L.drop i) wr
  k : Keep (fb :: [hb]) W wr
  hl : ∀ l ∈ L, l.length ≤ 1000000
  hL : L.length ≤ 900000
  E : Env w0
section
variable {w0 W : World} {L : List By} {hb r4 r5 fb db g : Nat} {a b c : Int} {n i : Nat} {more : List It} {wr w' : World}
theorem DcA.keepB (S : DcA w0 W L hb r4 r5 fb db i more wr) (h : Below wr.heap.size wr w') : DcA w0 W L hb r4 r5 fb db i more w' :=
  ⟨S.o.below h, S.f.keep h, S.k.trans (Keep.of_below (S := []) h) (by simp), S.hl, S.hL, S.E⟩
theorem DcA.env (S : DcA w0 W L hb r4 r5 fb db i more wr) : ∀ w', Keep [fb] wr w' → Env w' := fun w' k =>
  Env.below S.E (S.o.bel.trans (k.below S.o.bel.size (fun x hx => by rw [List.mem_singleton.1 hx]; exact S.o.ge 3 rfl (by simp [It.fp]))))
theorem DcA.fresh (S : DcA w0 W L hb r4 r5 fb db i more wr) : db ≠ fb := S.o.ne 4 3 rfl rfl (by decide) (x := db) (y := fb) (by simp [It.fp]) (by simp [It.fp])
theorem DcA.body (S : DcA w0 W L hb r4 r5 fb db i more wr) : (body (L.getD i [])).length ≤ 1000000 := by
  have h : (L.getD i []).length ≤ 1000000 := by
    by_cases h : i < L.length
    · rw [List.getD_eq_getElem?_getD, List.getElem?_eq_getElem h]; exact S.hl _ (List.getElem_mem _)
    · rw [List.getD_eq_getElem?_getD, List.getElem?_eq_none (by omega)]; simp
  unfold Lg.body
  rw [List.length_take]; omega
theorem DcA.next (S : DcA w0 W L hb r4 r5 fb db i more wr) (hi : i ≤ 100000) :
    Calls Tryz.prog 117 #[.pointer (some ⟨fb, 0, none⟩)] wr fun e w' => Keep [fb] wr w' ∧ if lineS L i = 0 then e = .returned (.string (bs (Lg.body (L.getD i [])))) ∧ DcA w0 W L hb r4 r5 fb db (i + 1) more w' else e = FailE (i + 1 : Nat) (lineS L i) := by
  have kn := lgNext_any _ _ fb i (L.drop i) wr S.f (fun l h => S.hl l (List.mem_of_mem_drop h)) (by have := S.hL; rw [List.length_drop]; omega) (by omega) (Env.below S.E S.o.bel) S.env
  refine kn.mono ?_
  unfold LgNxPost
  rw [← lineS_drop, show (L.drop i).headD [] = L.getD i [] by rw [List.headD_eq_head?_getD, List.head?_drop, ← List.getD_eq_getElem?_getD], List.tail_drop]
  rintro e w' ⟨h1, h2⟩
  refine ⟨h1, ?_⟩
  split
  · rename_i h
    rw [if_pos h] at h2
    exact ⟨h2.1, Own.keepAny S.o h1 (fun x hx => .inl ⟨3, by rw [List.mem_singleton.1 hx]; rfl⟩), h2.2, S.k.trans h1 (fun x hx => .inl (by simp at hx; simp [hx])), S.hl, S.hL, S.E⟩
  · rename_i h
    rw [if_neg h] at h2
    exact h2
end
set_option maxRecDepth 100000 in
set_option maxHeartbeats 4000000 in
theorem dueC_t2 {Q0 : Exit → Act → World → Prop} (L : List By) (hb r4 r5 fb db g4 c4 x y z : Nat) (w0 W wr : World) (S : DcA w0 W L hb r4 r5 fb db 1 [] wr) (hh : g4 < wr.heap.size ∧ wr.cell? ⟨g4, 0, none⟩ = some (.int .i64 x) ∧ wr.cell? ⟨g4, 1, none⟩ = some (.int .i64 y) ∧ wr.cell? ⟨g4, 2, none⟩ = some (.int .i64 z)) (hd : chL L = if sizeE (x : Nat) (y : Nat) (z : Nat) ≠ 0 then ((0, 0, 0), [], (1, sizeE (x : Nat) (y : Nat) (z : Nat)), 0) else (((x : Int), (y : Int), (z : Int)), chF L (x * y) (x * y + 1) 1 [])) {s1 s2 s5 s6 s7 s8 s9 s10 s11 s12 s13 s14 s15 s16 s17 s18 s19 s20 s21 s22 s23 s24 s25 s26 s27 s28 s29 s30 s31 s32 s33 s34 s35 s36 s37 s38 s39 s40 s41 s42 s43 s44 s45 s46 s47 s48 s49 s50 s51 s52 s53 s54 s55 s56 s57 s58 s59 s60 s61 s62 s63 s64 s65 s66 s67 s68 s69 s70 s71 s72 s73 s74 s75 s76 s77 s78 s79 s80 s81 s82 s83 s84 s85 s86 s87 s88 s89 s90 s91 s92 s93 s94 s95 s96 s97 s98 s99 s100 s101 s102 s103 s104 s105 s106 s107 s108 s109 s110 s111 s112 s113 s114 s115 s116 s117 s118 s119 s120 s121 s122 s123 s124 : Value} (hQ0 : ∀ e1 a1 w1, bodyPost Tryz.prog Tryz.f93 (DueR [hb] fb L (chL L).2.2.1 (chL L).2.2.2 (ChJ w0 hb r4 r5 (chL L).1.1 (chL L).1.2.1 (chL L).1.2.2 (chL L).2.1) W) e1 a1 w1 → Q0 e1 a1 w1) :
    Code.wp Tryz.prog (restOf Tryz.f93 2) Q0 ⟨#[.pointer (some ⟨hb, 0, none⟩), s1, s2, .pointer (some ⟨db, 0, none⟩), .slice (some ⟨g4, 0, none⟩) 3 c4, s5, s6, s7, s8, s9, s10, s11, s12, s13, s14, s15, s16, s17, s18, s19, s20, s21, s22, s23, s24, s25, s26, s27, s28, s29, s30, s31, s32, s33, s34, s35, s36, s37, s38, s39, s40, s41, s42, s43, s44, s45, s46, s47, s48, s49, s50, s51, s52, s53, s54, s55, s56, s57, s58, s59, s60, s61, s62, s63, s64, s65, s66, s67, s68, s69, s70, s71, s72, s73, s74, s75, s76, s77, s78, s79, s80, s81, s82, s83, s84, s85, s86, s87, s88, s89, s90, s91, s92, s93, s94, s95, s96, s97, s98, s99, s100, s101, s102, s103, s104, s105, s106, s107, s108, s109, s110, s111, s112, s113, s114, s115, s116, s117, s118, s119, s120, s121, s122, s123, s124], []⟩ wr := by
  refine wp_mono ?_ hQ0
  clear hQ0
  conv => arg 2; whnf
  obtain ⟨zg, e0, e1, e2⟩ := hh
  have hh := e0
  obtain ⟨er, her⟩ : ∃ e, e = sizeE (x : Nat) (y : Nat) (z : Nat) := ⟨_, rfl⟩
  have kb : ∀ w, Calls Tryz.prog 136 #[.int .i64 (x : Nat), .int .i64 (y : Nat), .int .i64 (z : Nat)] w fun e w' => ∃ (a b c : Int) (A : Option Addr) (m : Nat), e = .returned (.tuple #[.agg #[.int .i64 a, .int .i64 b, .int .i64 c, .slice A m m], .int .i64 er]) ∧ Below w.heap.size w w' ∧ (er = 0 → a = (x : Int) ∧ b = (y : Int) ∧ c = (z : Int) ∧ m = x * y ∧ ∃ g, A = some ⟨g, 0, none⟩ ∧ w'.heap[g]? = some (.cells (cels (List.replicate m celW)).toArray 73 (0, 0)) ∧ w.heap.size ≤ g) := fun w => by
    by_cases hz : er = 0
    · refine (blank_ok (x : Nat) (y : Nat) (z : Nat) (x * y) (by simp) (her.symm.trans hz) w).mono ?_
      rintro e w' ⟨g, rfl, ⟨cur, h1, h2⟩, h3, h4⟩
      rw [celX_rep h2] at h1
      exact ⟨_, _, _, _, _, by rw [hz], h4, fun _ => ⟨rfl, rfl, rfl, rfl, g, rfl, h1, h3⟩⟩
    · refine (blank_no (x : Nat) (y : Nat) (z : Nat) er her.symm hz w).mono ?_
      rintro e w' ⟨rfl, h⟩
      exact ⟨_, _, _, _, _, rfl, h, fun h => absurd h hz⟩
  rw [← her] at hd
  have HK := Lib.hid kb
  have HER := Lib.hid her
  clear kb her
  have HS := Lib.hid (And.intro S (And.intro hh hd))
  clear S hh hd
  go_upto_region 2 with fail
  try dsimp only
  go_cut [5, 6] from 16 to 28 (fun s5 s6 wx => ∃ (cb : Nat) (a b c : Int) (A : Option Addr) (m : Nat), s5 = .pointer (some ⟨cb, 0, none⟩) ∧ s6 = .int .i64 er ∧ wx.heap[cb]? = some (.cells #[.int .i64 a, .int .i64 b, .int .i64 c, .slice A m m] 57 (0, 0)) ∧ Below wr.heap.size wr wx ∧ (er = 0 → a = (x : Int) ∧ b = (y : Int) ∧ c = (z : Int) ∧ m = x * y ∧ ∃ g, A = some ⟨g, 0, none⟩ ∧ wx.heap[g]? = some (.cells (cels (List.replicate m celW)).toArray 73 (0, 0)) ∧ wr.heap.size ≤ g))
  case first =>
    obtain ⟨V, hV⟩ : ∃ v, v = wr.drew := ⟨_, rfl⟩
    have bV : Below wr.heap.size wr V := by rw [hV]; exact (Below.refl _ _).drew
    have hS : ∀ w', Below V.heap.size V w' → (g4 < w'.heap.size ∧ w'.cell? ⟨g4, 0, none⟩ = some (.int .i64 x) ∧ w'.cell? ⟨g4, 1, none⟩ = some (.int .i64 y) ∧ w'.cell? ⟨g4, 2, none⟩ = some (.int .i64 z)) := fun w' h => by
      have h2 := bV.trans (h.mono bV.size)
      exact ⟨Nat.lt_of_lt_of_le zg h2.size, (h2.cell (p := ⟨g4, 0, none⟩) zg).trans e0, (h2.cell (p := ⟨g4, 1, none⟩) zg).trans e1, (h2.cell (p := ⟨g4, 2, none⟩) zg).trans e2⟩
    have HV := Lib.hid (And.intro bV hS)
    clear bV hS
    refine wp_region_held_drew (S := fun w' => g4 < w'.heap.size ∧ w'.cell? ⟨g4, 0, none⟩ = some (.int .i64 x) ∧ w'.cell? ⟨g4, 1, none⟩ = some (.int .i64 y) ∧ w'.cell? ⟨g4, 2, none⟩ = some (.int .i64 z)) (by kernel_rfl) (by rw [← hV]; exact HV.out.2 V (Below.refl _ _)) (fun hHeld => ?_)
    rw [← hV] at hHeld ⊢; clear hV
    refine wpAnyH_take (i := 0) (oi := _) (v := ?_) rfl (by kernel_rfl) (by kernel_rfl) (by kernel_rfl) (fun _ _ _ h => h) (Or.inl ⟨by rfl, ?_⟩) (by assumption) ?_
    rotate_left
    · (intro w hSw; (try dsimp only at hSw); go_simp; try with_reducible rfl)
    try simp only [Act.put, List.setIfInBounds_toArray, List.set_cons_zero, List.set_cons_succ]
    refine wpAnyH_take (i := 1) (oi := _) (v := ?_) rfl (by kernel_rfl) (by kernel_rfl) (by kernel_rfl) (fun _ _ _ h => h) (Or.inl ⟨by rfl, ?_⟩) (by assumption) ?_
    rotate_left
    · (intro w hSw; (try dsimp only at hSw); go_simp; try with_reducible rfl)
    try simp only [Act.put, List.setIfInBounds_toArray, List.set_cons_zero, List.set_cons_succ]
    refine wpAnyH_take (i := 2) (oi := _) (v := ?_) rfl (by kernel_rfl) (by kernel_rfl) (by kernel_rfl) (fun _ _ _ h => h) (Or.inl ⟨by rfl, ?_⟩) (by assumption) ?_
    rotate_left
    · (intro w hSw; (try dsimp only at hSw); go_simp; try with_reducible rfl)
    try simp only [Act.put, List.setIfInBounds_toArray, List.set_cons_zero, List.set_cons_succ]
    refine wpAnyH_take (i := 3) (oi := _) (v := ?_) rfl (by kernel_rfl) (by kernel_rfl) (by kernel_rfl) (fun _ _ _ h => h) (Or.inl ⟨by rfl, ?_⟩) (by assumption) ?_
    rotate_left
    · (intro w hSw; (try dsimp only at hSw); go_simp; try with_reducible rfl)
    try simp only [Act.put, List.setIfInBounds_toArray, List.set_cons_zero, List.set_cons_succ]
    refine wpAnyH_take (i := 4) (oi := _) (v := ?_) rfl (by kernel_rfl) (by kernel_rfl) (by kernel_rfl) (fun _ _ _ h => h) (Or.inl ⟨by rfl, ?_⟩) (by assumption) ?_
    rotate_left
    · (intro w hSw; (try dsimp only at hSw); go_simp; try with_reducible rfl)
    try simp only [Act.put, List.setIfInBounds_toArray, List.set_cons_zero, List.set_cons_succ]
    refine wpAnyH_take (i := 5) (oi := _) (v := ?_) rfl (by kernel_rfl) (by kernel_rfl) (by kernel_rfl) (fun _ _ _ h => h) (Or.inl ⟨by rfl, ?_⟩) (by assumption) ?_
    rotate_left
    · (intro w hSw; (try dsimp only at hSw); go_simp; try with_reducible rfl)
    try simp only [Act.put, List.setIfInBounds_toArray, List.set_cons_zero, List.set_cons_succ]
    refine wpAnyH_take (i := 6) (oi := _) (v := ?_) rfl (by kernel_rfl) (by kernel_rfl) (by kernel_rfl) (fun _ _ _ h => h) (Or.inl ⟨by rfl, ?_⟩) (by assumption) ?_
    rotate_left
    · (intro w hSw; (try dsimp only at hSw); go_simp; try with_reducible rfl)
    try simp only [Act.put, List.setIfInBounds_toArray, List.set_cons_zero, List.set_cons_succ]
    refine wpAnyH_take (i := 7) (oi := _) (v := ?_) rfl (by kernel_rfl) (by kernel_rfl) (by kernel_rfl) (fun _ _ _ h => h) (Or.inl ⟨by rfl, ?_⟩) (by assumption) ?_
    rotate_left
    · (intro w hSw; (try dsimp only at hSw); go_simp; try with_reducible rfl)
    try simp only [Act.put, List.setIfInBounds_toArray, List.set_cons_zero, List.set_cons_succ]
    refine wpAnyH_take (i := 8) (oi := _) (v := ?_) rfl (by kernel_rfl) (by kernel_rfl) (by kernel_rfl) (fun _ _ _ h => h) (Or.inl ⟨by rfl, ?_⟩) (by assumption) ?_
    rotate_left
    · (intro w hSw; (try dsimp only at hSw); go_simp; try with_reducible rfl)
    try simp only [Act.put, List.setIfInBounds_toArray, List.set_cons_zero, List.set_cons_succ]
    refine wpAnyH_ready (rs := [9, 13]) (by kernel_rfl) (by simp) ?_
    refine (AllReadyH.cons (o := _) rfl (fun K hK => ?_) (AllReadyH.cons (o := _) rfl (fun K hK => ?_) AllReadyH.nil))
    · go_simp
      go_wp2_with (go_at_call 136; refine (HK.out V).mono ?_; rintro e w2 ⟨a, b, c, A, m, rfl, b2, h2⟩; have HB := Lib.hid (And.intro b2 h2); clear b2 h2)
      refine hK.out _ _ (HV.out.2 w2 HB.out.1) (fun hHeld => ?_)
      clear hK K
      try simp only [Act.put, List.setIfInBounds_toArray, List.set_cons_zero, List.set_cons_succ]
      refine wpAnyH_take (i := 10) (oi := _) (v := ?_) rfl (by kernel_rfl) (by kernel_rfl) (by kernel_rfl) (fun _ _ _ h => h) (Or.inl ⟨by rfl, ?_⟩) (by assumption) ?_
      rotate_left
      · (intro w hSw; (try dsimp only at hSw); go_simp; try with_reducible rfl)
      try simp only [Act.put, List.setIfInBounds_toArray, List.set_cons_zero, List.set_cons_succ]
      refine wpAnyH_take (i := 11) (oi := _) (v := ?_) rfl (by kernel_rfl) (by kernel_rfl) (by kernel_rfl) (fun _ _ _ h => h) (Or.inl ⟨by rfl, ?_⟩) (by assumption) ?_
      rotate_left
      · (intro w hSw; (try dsimp only at hSw); go_simp; try with_reducible rfl)
      try simp only [Act.put, List.setIfInBounds_toArray, List.set_cons_zero, List.set_cons_succ]
      refine wpAnyH_take (i := 12) (oi := _) (v := ?_) rfl (by kernel_rfl) (by kernel_rfl) (by kernel_rfl) (fun _ _ _ h => h) (Or.inl ⟨by rfl, ?_⟩) (by assumption) ?_
      rotate_left
      · (intro w hSw; (try dsimp only at hSw); go_simp; try with_reducible rfl)
      try simp only [Act.put, List.setIfInBounds_toArray, List.set_cons_zero, List.set_cons_succ]
      refine wpAnyH_ready (rs := [13]) (by kernel_rfl) (by simp) ?_
      refine (AllReadyH.cons (o := _) rfl (fun K hK => ?_) AllReadyH.nil)
      go_simp
      obtain ⟨cb, hcb⟩ : ∃ b, b = w2.heap.size := ⟨_, rfl⟩
      obtain ⟨u3, hu3⟩ : ∃ u, u = w2.alloc (.cells #[.int .i64 0, .int .i64 0, .int .i64 0, .slice none 0 0] 57) := ⟨_, rfl⟩
      rw [← hu3, ← hcb]
      have b23 : Below w2.heap.size w2 u3 := by rw [hu3]; exact (Below.refl _ _).alloc (Nat.le_refl _) _
      have h3 : u3.heap[cb]? = some (.cells #[.int .i64 0, .int .i64 0, .int .i64 0, .slice none 0 0] 57 (0, 0)) := by rw [hu3, hcb]; exact heap_alloc_new _ _
      have hv3 : V.heap.size ≤ cb := by rw [hcb]; exact HB.out.1.size
      have H3 := Lib.hid (And.intro (HB.out.1.trans (b23.mono HB.out.1.size)) (And.intro h3 (And.intro hv3 (fun h0 : er = 0 => by
        obtain ⟨h1, h2, h3, h5, g, h6, h7, h8⟩ := HB.out.2 h0
        exact (⟨h1, h2, h3, h5, g, h6, (b23.block g (heap_lt h7)).trans h7, by have := heap_lt h7; omega, h8⟩ : a = (x : Int) ∧ b = (y : Int) ∧ c = (z : Int) ∧ m = x * y ∧ ∃ g, A = some ⟨g, 0, none⟩ ∧ u3.heap[g]? = some (.cells (cels (List.replicate m celW)).toArray 73 (0, 0)) ∧ g ≠ cb ∧ V.heap.size ≤ g)))))
      clear hu3 hcb b23 h3 hv3
      have m0 := (cell_of_heap H3.out.2.1 0).trans rfl
      have f0 := frozen_of_heap H3.out.2.1 0
      have m1 := (cell_of_heap H3.out.2.1 1).trans rfl
      have f1 := frozen_of_heap H3.out.2.1 1
      have m2 := (cell_of_heap H3.out.2.1 2).trans rfl
      have f2 := frozen_of_heap H3.out.2.1 2
      have m3 := (cell_of_heap H3.out.2.1 3).trans rfl
      have f3 := frozen_of_heap H3.out.2.1 3
      have z3 := heap_lt H3.out.2.1
      refine hK.out _ _ (HV.out.2 u3 H3.out.1) (fun hHeld => ?_)
      clear hK K
      try simp only [Act.put, List.setIfInBounds_toArray, List.set_cons_zero, List.set_cons_succ]
      refine wpAnyH_ready (rs := [14]) (by kernel_rfl) (by simp) ?_
      refine (AllReadyH.cons (o := _) rfl (fun K hK => ?_) AllReadyH.nil)
      go_simp
      obtain ⟨u4, hu4⟩ : ∃ u, u = (((u3.setCell ⟨cb, 0, none⟩ (.int .i64 a)).setCell ⟨cb, 1, none⟩ (.int .i64 b)).setCell ⟨cb, 2, none⟩ (.int .i64 c)).setCell ⟨cb, 3, none⟩ (.slice A m m) := ⟨_, rfl⟩
      have h4 : u4.heap[cb]? = some (.cells #[.int .i64 a, .int .i64 b, .int .i64 c, .slice A m m] 57 (0, 0)) := by rw [hu4]; exact heap_set (heap_set (heap_set (heap_set H3.out.2.1 0 _) 1 _) 2 _) 3 _
      have k4 : Keep [cb] u3 u4 := by rw [hu4]; exact ((((Keep.refl [cb] u3).setCell (p := ⟨cb, 0, none⟩) (.inl (by simp)) _).setCell (p := ⟨cb, 1, none⟩) (.inl (by simp)) _).setCell (p := ⟨cb, 2, none⟩) (.inl (by simp)) _).setCell (p := ⟨cb, 3, none⟩) (.inl (by simp)) _
      have b4 : Below V.heap.size V u4 := H3.out.1.trans (k4.below H3.out.1.size (fun x hx => by rw [List.mem_singleton.1 hx]; exact H3.out.2.2.1))
      rw [← hu4]
      have H4 := Lib.hid (And.intro h4 (And.intro k4 b4))
      clear hu4 h4 k4 b4
      refine hK.out _ _ (HV.out.2 u4 H4.out.2.2) (fun hHeld => ?_)
      clear hK K
      try simp only [Act.put, List.setIfInBounds_toArray, List.set_cons_zero, List.set_cons_succ]
      refine wpAnyH_take (i := 15) (oi := _) (v := ?_) rfl (by kernel_rfl) (by kernel_rfl) (by kernel_rfl) (fun _ _ _ h => h) (Or.inl ⟨by rfl, ?_⟩) (by assumption) ?_
      rotate_left
      · (intro w hSw; (try dsimp only at hSw); go_simp; try with_reducible rfl)
      try simp only [Act.put, List.setIfInBounds_toArray, List.set_cons_zero, List.set_cons_succ]
      refine wpAnyH_done (by kernel_rfl) ?_ _
      try simp only [List.getElem_toArray, List.getElem_cons_zero, List.getElem_cons_succ, List.set_cons_zero, List.set_cons_succ]
      try dsimp only
      go_wp2_with fail
      go_meet
      refine ⟨cb, a, b, c, A, m, rfl, rfl, H4.out.1, HV.out.1.trans (H4.out.2.2.mono HV.out.1.size), fun h0 => ?_⟩
      obtain ⟨h1, h2, h3, h5, g, h6, h7, h8⟩ := H3.out.2.2.2 h0
      exact ⟨h1, h2, h3, h5, g, h6, (H4.out.2.1.block g (heap_lt h7) (by simpa using h8.1)).trans h7, Nat.le_trans HV.out.1.size h8.2⟩
    · go_simp
      obtain ⟨cb, hcb⟩ : ∃ b, b = V.heap.size := ⟨_, rfl⟩
      obtain ⟨u3, hu3⟩ : ∃ u, u = V.alloc (.cells #[.int .i64 0, .int .i64 0, .int .i64 0, .slice none 0 0] 57) := ⟨_, rfl⟩
      rw [← hu3, ← hcb]
      have b3 : Below V.heap.size V u3 := by rw [hu3]; exact (Below.refl _ _).alloc (Nat.le_refl _) _
      have h3 : u3.heap[cb]? = some (.cells #[.int .i64 0, .int .i64 0, .int .i64 0, .slice none 0 0] 57 (0, 0)) := by rw [hu3, hcb]; exact heap_alloc_new _ _
      have hv3 : V.heap.size ≤ cb := Nat.le_of_eq hcb.symm
      have HA := Lib.hid (And.intro b3 (And.intro h3 hv3))
      clear hu3 hcb b3 h3 hv3
      refine hK.out _ _ (HV.out.2 u3 HA.out.1) (fun hHeld => ?_)
      clear hK K
      try simp only [Act.put, List.setIfInBounds_toArray, List.set_cons_zero, List.set_cons_succ]
      refine wpAnyH_ready (rs := [9]) (by kernel_rfl) (by simp) ?_
      refine (AllReadyH.cons (o := _) rfl (fun K hK => ?_) AllReadyH.nil)
      go_simp
      go_wp2_with (go_at_call 136; refine (HK.out u3).mono ?_; rintro e w2 ⟨a, b, c, A, m, rfl, b2, h2⟩; have HB := Lib.hid (And.intro b2 h2); clear b2 h2)
      have H3 := Lib.hid (And.intro (HA.out.1.trans (HB.out.1.mono HA.out.1.size)) (And.intro ((HB.out.1.block cb (heap_lt HA.out.2.1)).trans HA.out.2.1) (And.intro HA.out.2.2 (fun h0 : er = 0 => by
        obtain ⟨h1, h2, h3, h5, g, h6, h7, h8⟩ := HB.out.2 h0
        exact (⟨h1, h2, h3, h5, g, h6, h7, by have := heap_lt HA.out.2.1; omega, Nat.le_trans HA.out.1.size h8⟩ : a = (x : Int) ∧ b = (y : Int) ∧ c = (z : Int) ∧ m = x * y ∧ ∃ g, A = some ⟨g, 0, none⟩ ∧ w2.heap[g]? = some (.cells (cels (List.replicate m celW)).toArray 73 (0, 0)) ∧ g ≠ cb ∧ V.heap.size ≤ g)))))
      have m0 := (cell_of_heap H3.out.2.1 0).trans rfl
      have f0 := frozen_of_heap H3.out.2.1 0
      have m1 := (cell_of_heap H3.out.2.1 1).trans rfl
      have f1 := frozen_of_heap H3.out.2.1 1
      have m2 := (cell_of_heap H3.out.2.1 2).trans rfl
      have f2 := frozen_of_heap H3.out.2.1 2
      have m3 := (cell_of_heap H3.out.2.1 3).trans rfl
      have f3 := frozen_of_heap H3.out.2.1 3
      have z3 := heap_lt H3.out.2.1
      refine hK.out _ _ (HV.out.2 w2 H3.out.1) (fun hHeld => ?_)
      clear hK K
      try simp only [Act.put, List.setIfInBounds_toArray, List.set_cons_zero, List.set_cons_succ]
      refine wpAnyH_take (i := 10) (oi := _) (v := ?_) rfl (by kernel_rfl) (by kernel_rfl) (by kernel_rfl) (fun _ _ _ h => h) (Or.inl ⟨by rfl, ?_⟩) (by assumption) ?_
      rotate_left
      · (intro w hSw; (try dsimp only at hSw); go_simp; try with_reducible rfl)
      try simp only [Act.put, List.setIfInBounds_toArray, List.set_cons_zero, List.set_cons_succ]
      refine wpAnyH_take (i := 11) (oi := _) (v := ?_) rfl (by kernel_rfl) (by kernel_rfl) (by kernel_rfl) (fun _ _ _ h => h) (Or.inl ⟨by rfl, ?_⟩) (by assumption) ?_
      rotate_left
      · (intro w hSw; (try dsimp only at hSw); go_simp; try with_reducible rfl)
      try simp only [Act.put, List.setIfInBounds_toArray, List.set_cons_zero, List.set_cons_succ]
      refine wpAnyH_take (i := 12) (oi := _) (v := ?_) rfl (by kernel_rfl) (by kernel_rfl) (by kernel_rfl) (fun _ _ _ h => h) (Or.inl ⟨by rfl, ?_⟩) (by assumption) ?_
      rotate_left
      · (intro w hSw; (try dsimp only at hSw); go_simp; try with_reducible rfl)
      try simp only [Act.put, List.setIfInBounds_toArray, List.set_cons_zero, List.set_cons_succ]
      refine wpAnyH_ready (rs := [14]) (by kernel_rfl) (by simp) ?_
      refine (AllReadyH.cons (o := _) rfl (fun K hK => ?_) AllReadyH.nil)
      go_simp
      obtain ⟨u4, hu4⟩ : ∃ u, u = (((w2.setCell ⟨cb, 0, none⟩ (.int .i64 a)).setCell ⟨cb, 1, none⟩ (.int .i64 b)).setCell ⟨cb, 2, none⟩ (.int .i64 c)).setCell ⟨cb, 3, none⟩ (.slice A m m) := ⟨_, rfl⟩
      have h4 : u4.heap[cb]? = some (.cells #[.int .i64 a, .int .i64 b, .int .i64 c, .slice A m m] 57 (0, 0)) := by rw [hu4]; exact heap_set (heap_set (heap_set (heap_set H3.out.2.1 0 _) 1 _) 2 _) 3 _
      have k4 : Keep [cb] w2 u4 := by rw [hu4]; exact ((((Keep.refl [cb] w2).setCell (p := ⟨cb, 0, none⟩) (.inl (by simp)) _).setCell (p := ⟨cb, 1, none⟩) (.inl (by simp)) _).setCell (p := ⟨cb, 2, none⟩) (.inl (by simp)) _).setCell (p := ⟨cb, 3, none⟩) (.inl (by simp)) _
      have b4 : Below V.heap.size V u4 := H3.out.1.trans (k4.below H3.out.1.size (fun x hx => by rw [List.mem_singleton.1 hx]; exact H3.out.2.2.1))
      rw [← hu4]
      have H4 := Lib.hid (And.intro h4 (And.intro k4 b4))
      clear hu4 h4 k4 b4
      refine hK.out _ _ (HV.out.2 u4 H4.out.2.2) (fun hHeld => ?_)
      clear hK K
      try simp only [Act.put, List.setIfInBounds_toArray, List.set_cons_zero, List.set_cons_succ]
      refine wpAnyH_take (i := 15) (oi := _) (v := ?_) rfl (by kernel_rfl) (by kernel_rfl) (by kernel_rfl) (fun _ _ _ h => h) (Or.inl ⟨by rfl, ?_⟩) (by assumption) ?_
      rotate_left
      · (intro w hSw; (try dsimp only at hSw); go_simp; try with_reducible rfl)
      try simp only [Act.put, List.setIfInBounds_toArray, List.set_cons_zero, List.set_cons_succ]
      refine wpAnyH_done (by kernel_rfl) ?_ _
      try simp only [List.getElem_toArray, List.getElem_cons_zero, List.getElem_cons_succ, List.set_cons_zero, List.set_cons_succ]
      try dsimp only
      go_wp2_with fail
      go_meet
      refine ⟨cb, a, b, c, A, m, rfl, rfl, H4.out.1, HV.out.1.trans (H4.out.2.2.mono HV.out.1.size), fun h0 => ?_⟩
      obtain ⟨h1, h2, h3, h5, g, h6, h7, h8⟩ := H3.out.2.2.2 h0
      exact ⟨h1, h2, h3, h5, g, h6, (H4.out.2.1.block g (heap_lt h7) (by simpa using h8.1)).trans h7, Nat.le_trans HV.out.1.size h8.2⟩
  case rest =>
  obtain ⟨cb, a, b, c, A, m, rfl, rfl, hcb, bw, hs⟩ := hcut
  apply_assumption
  obtain ⟨w5, hw5⟩ : ∃ u, u = wc := ⟨_, rfl⟩
  subst hw5
  have S2 := HS.out.1.keepB bw
  have d2 := (cell_of_heap (S2.o.heap 4 rfl) 0).trans rfl
  have z2 := heap_lt (S2.o.heap 4 rfl)
  have n2 := S2.f.num
  have q0 := (cell_of_heap hcb 0).trans rfl
  have q1 := (cell_of_heap hcb 1).trans rfl
  have q2 := (cell_of_heap hcb 2).trans rfl
  have q3 := (cell_of_heap hcb 3).trans rfl
  have zq := heap_lt hcb
  have hhb := S2.o.heap 0 rfl
  have t0 := (cell_of_heap hhb 0).trans rfl
  have t1 := (cell_of_heap hhb 1).trans rfl
  have t2 := (cell_of_heap hhb 2).trans rfl
  have t3 := (cell_of_heap hhb 3).trans rfl
  have f0 := frozen_of_heap hhb 0
  have f1 := frozen_of_heap hhb 1
  have f2 := frozen_of_heap hhb 2
  have f3 := frozen_of_heap hhb 3
  have zh := heap_lt hhb
  by_cases hz : er = 0
  · subst hz
    obtain ⟨rfl, rfl, rfl, hm, g, rfl, hgh, hge⟩ := hs rfl
    have hd := HS.out.2.2
    rw [if_neg (by simp)] at hd
    have HZ := Lib.hid (And.intro S2 (And.intro hhb (And.intro hd (And.intro hgh (And.intro hge (And.intro hm bw))))))
    clear S2 hhb hd hgh hge hm hs bw
    go_upto_region 4 with (go_at_call 118; refine (want_yes _ 0 _).mono ?_; rintro e w9 ⟨rfl, h9⟩; have h9' := h9.symm; clear h9; subst h9')
    go_cut [] from 35 to 38 (fun wx => wx = (((w5.setCell ⟨hb, 0, none⟩ (.int .i64 (x : Nat))).setCell ⟨hb, 1, none⟩ (.int .i64 (y : Nat))).setCell ⟨hb, 2, none⟩ (.int .i64 (z : Nat))).setCell ⟨hb, 3, none⟩ (.slice (some ⟨g, 0, none⟩) m m))
    case first =>
      go_wp2_with fail
      go_meet
      rfl
    case rest =>
    obtain ⟨u9, hu9⟩ : ∃ u, u = (((w5.setCell ⟨hb, 0, none⟩ (.int .i64 (x : Nat))).setCell ⟨hb, 1, none⟩ (.int .i64 (y : Nat))).setCell ⟨hb, 2, none⟩ (.int .i64 (z : Nat))).setCell ⟨hb, 3, none⟩ (.slice (some ⟨g, 0, none⟩) m m) := ⟨_, rfl⟩
    rw [← hu9] at hcut
    rw [hcut]
    apply_assumption
    have h9 := heap_set (heap_set (heap_set (heap_set HZ.out.2.1 0 (.int .i64 (x : Nat))) 1 (.int .i64 (y : Nat))) 2 (.int .i64 (z : Nat))) 3 (.slice (some ⟨g, 0, none⟩) m m)
    have k9 := ((((Keep.refl [hb] w5).setCell (p := ⟨hb, 0, none⟩) (.inl (by simp)) (.int .i64 (x : Nat))).setCell (p := ⟨hb, 1, none⟩) (.inl (by simp)) (.int .i64 (y : Nat))).setCell (p := ⟨hb, 2, none⟩) (.inl (by simp)) (.int .i64 (z : Nat))).setCell (p := ⟨hb, 3, none⟩) (.inl (by simp)) (.slice (some ⟨g, 0, none⟩) m m)
    rw [← hu9] at h9 k9
    clear hu9
    obtain ⟨S2, hhb, hd, hgh, hge, hm, bw⟩ := HZ.out
    have hz2 := size_zero HER.out.symm
    have hn : m ≤ 1024 := by have := hz2.2.2.2; rw [hm]; exact_mod_cast this
    have hfh : fb ∉ [hb] := by simpa using S2.o.ne 3 0 rfl rfl (by decide) (x := fb) (y := hb) (by simp [It.fp]) (by simp [It.fp])
    have o2 := Own.new HS.out.1.o (i := .blk g (.cells (cels (List.replicate m celW)).toArray 73)) bw hgh (fun x hx => by simp [It.fp] at hx; subst hx; exact hge)
    have o9 := Own.set o2 0 rfl k9 h9
    rw [← hm] at hd
    exact dueC_t5 L hb r4 r5 fb db g m (x : Nat) (y : Nat) (z : Nat) w0 W u9 ⟨o9, S2.f.keepX k9 hfh (fun x hx => .inl (by simp at hx; simp [hx])), S2.k.trans k9 (fun x hx => .inl (by simp at hx; simp [hx])), Nat.le_trans HS.out.1.k.size hge, S2.hl, S2.hL, S2.E⟩ hn hd (fun _ _ _ h => h)
  · have hne : (er == 0) = false := by simpa using hz
    have hd := HS.out.2.2
    rw [if_pos hz] at hd
    have HZ := Lib.hid (And.intro S2.k (And.intro hd hz))
    clear S2 hhb hd hs bw hz
    go_wp2_with (go_at_call 118; refine (want_no fb _ er _ n2).mono ?_; unfold FailE; rintro e w9 ⟨rfl, rfl⟩)
    exact ⟨rfl, dc_fail (ln := 1) (e := er) (by rw [HZ.out.2.1]) HZ.out.2.2 HZ.out.1⟩
set_option maxRecDepth 100000 in
set_option maxHeartbeats 4000000 in
theorem dueC_any (L : List By) (hb r4 r5 fb : Nat) (w0 W : World) (hl : ∀ l ∈ L, l.length ≤ 1000000) (hL : L.length ≤ 900000)
    (hO : Own w0.heap.size w0 [.blk hb (.cells #[.int .i64 0, .int .i64 0, .int .i64 0, .slice none 0 0] 157), .any r4, .any r5, .any fb] W) (hf : FeedS (fb :: [hb]) W.heap.size fb 0 L W) (E : Env w0) :
    Calls Tryz.prog 93 #[.pointer (some ⟨hb, 0, none⟩), .agg #[.pointer (some ⟨fb, 0, none⟩)]] W (DueR [hb] fb L (chL L).2.2.1 (chL L).2.2.2 (ChJ w0 hb r4 r5 (chL L).1.1 (chL L).1.2.1 (chL L).1.2.2 (chL L).2.1) W) := by
  obtain ⟨db, hdb⟩ : ∃ b, b = W.heap.size := ⟨_, rfl⟩
  obtain ⟨W1, hW1⟩ : ∃ w, w = W.alloc (.cells #[.pointer (some ⟨fb, 0, none⟩)] 184) := ⟨_, rfl⟩
  have bW1 : Below W.heap.size W W1 := by rw [hW1]; exact (Below.refl _ _).alloc (Nat.le_refl _) _
  have O1 : Own w0.heap.size w0 [.blk hb (.cells #[.int .i64 0, .int .i64 0, .int .i64 0, .slice none 0 0] 157), .any r4, .any r5, .any fb, .blk db (.cells #[.pointer (some ⟨fb, 0, none⟩)] 184)] W1 := by
    have := Own.alloc hO (.cells #[.pointer (some ⟨fb, 0, none⟩)] 184)
    rw [hW1, hdb]; exact this
  have S0 : DcA w0 W L hb r4 r5 fb db 0 [] W1 := ⟨O1, hf.keep bW1, Keep.of_below (S := fb :: [hb]) bW1, hl, hL, E⟩
  have H0 := Lib.hid S0
  clear bW1 O1 S0 hl hL hO hf E
  go_enter Tryz.func93, Tryz.ntmps93
  go_upto_region 1 with fail
  rw [← hW1, ← hdb]
  clear hW1 hdb
  go_cut [4] from 11 to 15 (fun s4 wx => ∃ (x y z g4 c4 : Nat), s4 = .slice (some ⟨g4, 0, none⟩) 3 c4 ∧ (g4 < wx.heap.size ∧ wx.cell? ⟨g4, 0, none⟩ = some (.int .i64 x) ∧ wx.cell? ⟨g4, 1, none⟩ = some (.int .i64 y) ∧ wx.cell? ⟨g4, 2, none⟩ = some (.int .i64 z)) ∧ DcA w0 W L hb r4 r5 fb db 1 [] wx ∧ nums (Lg.body (L.getD 0 [])) [67, 72, 65, 82, 84] 3 = some [x, y, z] ∧ lineS L 0 = 0)
  case first =>
    obtain ⟨V, hV⟩ : ∃ v, v = W1.drew := ⟨_, rfl⟩
    have S1 := H0.out.keepB (w' := V) (by rw [hV]; exact (Below.refl _ _).drew)
    have kn := S1.next (by omega)
    have d1 := (cell_of_heap (S1.o.heap 4 rfl) 0).trans rfl
    have z1 := heap_lt (S1.o.heap 4 rfl)
    have hdf : db ∉ [fb] := by simpa using S1.fresh
    obtain ⟨B, hB⟩ : ∃ B, B = Lg.body (L.getD 0 []) := ⟨_, rfl⟩
    have hBl : B.length ≤ 1000000 := by rw [hB]; exact S1.body
    have kW := S1.k
    rw [← hB] at kn
    by_cases h9 : lineS L 0 = 0
    · have kn2 : Calls Tryz.prog 117 #[.pointer (some ⟨fb, 0, none⟩)] V fun e w' => e = .returned (.string (bs B)) ∧ DcA w0 W L hb r4 r5 fb db (0 + 1) [] w' ∧ Keep [fb] V w' := kn.mono fun e w' h => by
        obtain ⟨k1, k2⟩ := h
        rw [if_pos h9] at k2
        exact ⟨k2.1, k2.2, k1⟩
      cases hc : nums B [67, 72, 65, 82, 84] 3 with
      | none =>
        have hd : (chL L).2.2.1 = (1, 3) := by unfold chL; rw [if_neg (not_not_intro h9), ← hB, hc]
        have H := Lib.hid (And.intro kn2 (And.intro hd (And.intro hBl (And.intro hc kW))))
        clear kn kn2 hd hBl hc kW h9 S1 hB
        refine wp_region_held_drew (S := fun w' => db < w'.heap.size ∧ w'.cell? ⟨db, 0, none⟩ = some (.pointer (some ⟨fb, 0, none⟩))) (by kernel_rfl) (by rw [← hV]; exact ⟨z1, d1⟩) (fun hHeld => ?_)
        rw [← hV] at hHeld ⊢; clear hV
        refine wpAnyH_take (i := 0) (oi := _) (v := ?_) rfl (by kernel_rfl) (by kernel_rfl) (by kernel_rfl) (fun _ _ _ h => h) (Or.inl ⟨by rfl, ?_⟩) (by assumption) ?_
        rotate_left
        · (intro w hSw; (try dsimp only at hSw); go_simp; try with_reducible rfl)
        try simp only [Act.put, List.setIfInBounds_toArray, List.set_cons_zero, List.set_cons_succ]
        refine wpAnyH_take (i := 1) (oi := _) (v := ?_) rfl (by kernel_rfl) (by kernel_rfl) (by kernel_rfl) (fun _ _ _ h => h) (Or.inl ⟨by rfl, ?_⟩) (by assumption) ?_
        rotate_left
        · (intro w hSw; (try dsimp only at hSw); go_simp; try with_reducible rfl)
        try simp only [Act.put, List.setIfInBounds_toArray, List.set_cons_zero, List.set_cons_succ]
        refine wpAnyH_take (i := 2) (oi := _) (v := ?_) rfl (by kernel_rfl) (by kernel_rfl) (by kernel_rfl) (fun _ _ _ h => h) (Or.inl ⟨by rfl, ?_⟩) (by assumption) ?_
        rotate_left
        · (intro w hSw; (try dsimp only at hSw); go_simp; try with_reducible rfl)
        try simp only [Act.put, List.setIfInBounds_toArray, List.set_cons_zero, List.set_cons_succ]
        refine wpAnyH_ready (rs := [3]) (by kernel_rfl) (by simp) ?_
        refine AllReadyH.cons (o := _) rfl (fun K hK => ?_) AllReadyH.nil
        go_simp
        go_wp2_with (go_at_call 117; refine H.out.1.mono ?_; rintro e w2 ⟨rfl, s2, k2⟩; have d2 := k2.cell (b := db) (o := 0) d1 hdf; have z2 := Nat.lt_of_lt_of_le z1 k2.size; have n2 := s2.f.num; have HN := Lib.hid (And.intro s2 k2); clear s2 k2)
        refine hK.out _ _ ⟨z2, d2⟩ (fun hHeld => ?_)
        clear hK K
        try simp only [Act.put, List.setIfInBounds_toArray, List.set_cons_zero, List.set_cons_succ]
        refine wpAnyH_ready (rs := [4]) (by kernel_rfl) (by simp) ?_
        refine AllReadyH.cons (o := _) rfl (fun K hK => ?_) AllReadyH.nil
        go_simp
        go_wp2_with (go_at_call 135; refine (gNumbers_any fb (0 + 1) B [67, 72, 65, 82, 84] 3 w2 H.out.2.2.1 n2 (Env.below HN.out.1.E HN.out.1.o.bel) (by decide)).mono ?_; rintro e w3 ⟨b3, h3, _⟩; obtain rfl := h3 H.out.2.2.2.1; unfold FailE; have HM := Lib.hid b3; clear b3 h3)
        exact ⟨rfl, dc_fail (ln := 1) (e := 3) H.out.2.1 (by decide) ((H.out.2.2.2.2.trans HN.out.2 (fun x hx => .inl (by simp at hx; simp [hx]))).trans (Keep.of_below (S := []) HM.out) (by simp))⟩
      | some vs =>
        have hv3 : vs.length = 3 := by
          unfold nums at hc
          split at hc
          · cases hc
          · split at hc
            · rw [allN_len hc]; assumption
            · cases hc
        obtain ⟨x, y, z, rfl⟩ : ∃ a b c, vs = [a, b, c] := by
          match vs, hv3 with
          | [a, b, c], _ => exact ⟨a, b, c, rfl⟩
        have H := Lib.hid (And.intro kn2 (And.intro h9 (And.intro hBl (And.intro hc hB))))
        clear kn kn2 hBl hc kW h9 S1 hB hv3
        refine wp_region_held_drew (S := fun w' => db < w'.heap.size ∧ w'.cell? ⟨db, 0, none⟩ = some (.pointer (some ⟨fb, 0, none⟩))) (by kernel_rfl) (by rw [← hV]; exact ⟨z1, d1⟩) (fun hHeld => ?_)
        rw [← hV] at hHeld ⊢; clear hV
        refine wpAnyH_take (i := 0) (oi := _) (v := ?_) rfl (by kernel_rfl) (by kernel_rfl) (by kernel_rfl) (fun _ _ _ h => h) (Or.inl ⟨by rfl, ?_⟩) (by assumption) ?_
        rotate_left
        · (intro w hSw; (try dsimp only at hSw); go_simp; try with_reducible rfl)
        try simp only [Act.put, List.setIfInBounds_toArray, List.set_cons_zero, List.set_cons_succ]
        refine wpAnyH_take (i := 1) (oi := _) (v := ?_) rfl (by kernel_rfl) (by kernel_rfl) (by kernel_rfl) (fun _ _ _ h => h) (Or.inl ⟨by rfl, ?_⟩) (by assumption) ?_
        rotate_left
        · (intro w hSw; (try dsimp only at hSw); go_simp; try with_reducible rfl)
        try simp only [Act.put, List.setIfInBounds_toArray, List.set_cons_zero, List.set_cons_succ]
        refine wpAnyH_take (i := 2) (oi := _) (v := ?_) rfl (by kernel_rfl) (by kernel_rfl) (by kernel_rfl) (fun _ _ _ h => h) (Or.inl ⟨by rfl, ?_⟩) (by assumption) ?_
        rotate_left
        · (intro w hSw; (try dsimp only at hSw); go_simp; try with_reducible rfl)
        try simp only [Act.put, List.setIfInBounds_toArray, List.set_cons_zero, List.set_cons_succ]
        refine wpAnyH_ready (rs := [3]) (by kernel_rfl) (by simp) ?_
        refine AllReadyH.cons (o := _) rfl (fun K hK => ?_) AllReadyH.nil
        go_simp
        go_wp2_with (go_at_call 117; refine H.out.1.mono ?_; rintro e w2 ⟨rfl, s2, k2⟩; have d2 := k2.cell (b := db) (o := 0) d1 hdf; have z2 := Nat.lt_of_lt_of_le z1 k2.size; have n2 := s2.f.num; have HN := Lib.hid (And.intro s2 k2); clear s2 k2)
        refine hK.out _ _ ⟨z2, d2⟩ (fun hHeld => ?_)
        clear hK K
        try simp only [Act.put, List.setIfInBounds_toArray, List.set_cons_zero, List.set_cons_succ]
        refine wpAnyH_ready (rs := [4]) (by kernel_rfl) (by simp) ?_
        refine AllReadyH.cons (o := _) rfl (fun K hK => ?_) AllReadyH.nil
        go_simp
        go_wp2_with (go_at_call 135; refine (gNumbers_any fb (0 + 1) B [67, 72, 65, 82, 84] 3 w2 H.out.2.2.1 n2 (Env.below HN.out.1.E HN.out.1.o.bel) (by decide)).mono ?_; rintro e w3 ⟨b3, _, h3⟩; obtain ⟨A, c4, q, rfl, ow, hq⟩ := h3 _ H.out.2.2.2.1; have d3 := (b3.cell (p := ⟨db, 0, none⟩) z2).trans d2; have z3 := Nat.lt_of_lt_of_le z2 b3.size; have HM := Lib.hid (And.intro b3 ow); clear b3 h3 ow hq)
        refine hK.out _ _ ⟨z3, d3⟩ (fun hHeld => ?_)
        clear hK K
        try simp only [Act.put, List.setIfInBounds_toArray, List.set_cons_zero, List.set_cons_succ]
        refine wpAnyH_take (i := 5) (oi := _) (v := ?_) rfl (by kernel_rfl) (by kernel_rfl) (by kernel_rfl) (fun _ _ _ h => h) (Or.inl ⟨by rfl, ?_⟩) (by assumption) ?_
        rotate_left
        · (intro w hSw; (try dsimp only at hSw); go_simp; try with_reducible rfl)
        try simp only [Act.put, List.setIfInBounds_toArray, List.set_cons_zero, List.set_cons_succ]
        refine wpAnyH_done (by kernel_rfl) ?_ _
        try simp only [List.getElem_toArray, List.getElem_cons_zero, List.getElem_cons_succ, List.set_cons_zero, List.set_cons_succ]
        try dsimp only
        go_wp2_with fail
        go_meet
        obtain ⟨g4, cur, rfl, _, hh, hsz, hc3, _, hcu⟩ := HM.out.2.2.resolve_left (by rintro ⟨_, h, _⟩; cases h)
        exact ⟨x, y, z, g4, c4, rfl, ⟨heap_lt hh, (cell_of_heap hh 0).trans (hcu 0 _ rfl), (cell_of_heap hh 1).trans (hcu 1 _ rfl), (cell_of_heap hh 2).trans (hcu 2 _ rfl)⟩, HN.out.1.keepB HM.out.1, by rw [← H.out.2.2.2.2]; exact H.out.2.2.2.1, H.out.2.1⟩
    · have kn2 : Calls Tryz.prog 117 #[.pointer (some ⟨fb, 0, none⟩)] V fun e w' => e = FailE (0 + 1 : Nat) (lineS L 0) ∧ Keep [fb] V w' := kn.mono fun e w' h => by
        obtain ⟨k1, k2⟩ := h
        rw [if_neg h9] at k2
        exact ⟨k2, k1⟩
      have hd : (chL L).2.2.1 = (1, lineS L 0) := by unfold chL; rw [if_pos h9]
      obtain ⟨e1, he1⟩ : ∃ e, e = lineS L 0 := ⟨_, rfl⟩
      rw [← he1] at hd kn2 h9
      have H := Lib.hid (And.intro kn2 (And.intro hd (And.intro h9 kW)))
      clear kn kn2 hd he1 h9 S1 kW hB hBl
      refine wp_region_held_drew (S := fun w' => db < w'.heap.size ∧ w'.cell? ⟨db, 0, none⟩ = some (.pointer (some ⟨fb, 0, none⟩))) (by kernel_rfl) (by rw [← hV]; exact ⟨z1, d1⟩) (fun hHeld => ?_)
      rw [← hV] at hHeld ⊢; clear hV
      refine wpAnyH_take (i := 0) (oi := _) (v := ?_) rfl (by kernel_rfl) (by kernel_rfl) (by kernel_rfl) (fun _ _ _ h => h) (Or.inl ⟨by rfl, ?_⟩) (by assumption) ?_
      rotate_left
      · (intro w hSw; (try dsimp only at hSw); go_simp; try with_reducible rfl)
      try simp only [Act.put, List.setIfInBounds_toArray, List.set_cons_zero, List.set_cons_succ]
      refine wpAnyH_take (i := 1) (oi := _) (v := ?_) rfl (by kernel_rfl) (by kernel_rfl) (by kernel_rfl) (fun _ _ _ h => h) (Or.inl ⟨by rfl, ?_⟩) (by assumption) ?_
      rotate_left
      · (intro w hSw; (try dsimp only at hSw); go_simp; try with_reducible rfl)
      try simp only [Act.put, List.setIfInBounds_toArray, List.set_cons_zero, List.set_cons_succ]
      refine wpAnyH_take (i := 2) (oi := _) (v := ?_) rfl (by kernel_rfl) (by kernel_rfl) (by kernel_rfl) (fun _ _ _ h => h) (Or.inl ⟨by rfl, ?_⟩) (by assumption) ?_
      rotate_left
      · (intro w hSw; (try dsimp only at hSw); go_simp; try with_reducible rfl)
      try simp only [Act.put, List.setIfInBounds_toArray, List.set_cons_zero, List.set_cons_succ]
      refine wpAnyH_ready (rs := [3]) (by kernel_rfl) (by simp) ?_
      refine AllReadyH.cons (o := _) rfl (fun K hK => ?_) AllReadyH.nil
      go_simp
      go_wp2_with (go_at_call 117; refine H.out.1.mono ?_; unfold FailE; rintro e w2 ⟨rfl, k2⟩; have HN := Lib.hid k2; clear k2)
      exact ⟨rfl, dc_fail (ln := 1) (e := e1) H.out.2.1 H.out.2.2.1 (H.out.2.2.2.trans HN.out (fun x hx => .inl (by simp at hx; simp [hx])))⟩
  case rest =>
  obtain ⟨x, y, z, g4, c4, rfl, hh, S, hc, h9⟩ := hcut
  apply_assumption
  refine dueC_t2 L hb r4 r5 fb db g4 c4 x y z w0 W _ S hh ?_ (fun _ _ _ h => h)
  unfold chL
  rw [if_neg (not_not_intro h9), hc]
  rfl
end Go.Proofs.YtaokegobilphnaaGreatDoor
/- log.read with log.charting).due (printed by tools/lgrr.py) -/
namespace Go.Proofs.YtaokegobilphnaaGreatDoor
open Go Go.RowKit Go.Shelf Go.Proofs Sp Lg
set_option linter.unusedVariables false
set_option linter.unusedSimpArgs false

set_option maxRecDepth 100000 in
set_option maxHeartbeats 4000000 in
theorem gReadC_any (p : Value) (s : ByteArray) (w0 w : World) (Sx : List Nat) (J : Nat → World → Prop) (er : Nat × Int) (N : Nat) (hs : s.size ≤ 1000000) (hSx : ∀ x ∈ Sx, w0.heap.size ≤ x ∧ x < w.heap.size) (hB : Below w0.heap.size w0 w) (E : Env w0) (hN : N ≤ 1000000)
    (hdue : ∀ fb W, Below w0.heap.size w0 W → w.heap.size + 2 ≤ fb → FeedS (fb :: Sx) W.heap.size fb 0 (lines s.data.toList) W → (∀ x ∈ Sx, W.heap[x]? = w.heap[x]?) → Calls Tryz.prog 93 #[p, .agg #[.pointer (some ⟨fb, 0, none⟩)]] W (DueR Sx fb (lines s.data.toList) er N J W))
    (hJ : ∀ fb A B, J fb A → Keep [w.heap.size, w.heap.size + 1, fb] A B → J fb B) :
    Calls Tryz.prog 71 #[.string s, .func (.func 93) #[p] #[]] w (ReadPost w0 w s.data.toList er N J) := by
  have hmf : ∀ (fn : Fn) (first cap : Array Value) (w : World), (Instr.makeFunc fn first cap).run Tryz.prog w = .ok (.func fn first cap) w := fun _ _ _ _ => rfl
  have hlen : s.data.toList.length = s.size := Array.length_toList
  obtain ⟨T, hT⟩ : ∃ T, T = s.data.toList := ⟨_, rfl⟩
  have hsb : s = bs T := by rw [hT, bs_eta]
  rw [← hT] at hdue hlen ⊢
  obtain ⟨r4, hr4⟩ : ∃ b, b = w.heap.size := ⟨_, rfl⟩
  obtain ⟨r5, hr5⟩ : ∃ b, b = w.heap.size + 1 := ⟨_, rfl⟩
  obtain ⟨W1, hW1⟩ : ∃ W, W = (w.alloc (.cells #[.int .i64 0] 3)).alloc (.cells #[.int .i64 0] 29) := ⟨_, rfl⟩
  have O1 : Own w0.heap.size w0 [.blk r4 (.cells #[.int .i64 0] 3), .blk r5 (.cells #[.int .i64 0] 29)] W1 := by
    have h0 : Own w0.heap.size w0 [] w := ⟨hB, hB.size, by simp, by simp⟩
    have h := (h0.alloc (.cells #[.int .i64 0] 3)).alloc (.cells #[.int .i64 0] 29)
    rw [World.size_alloc] at h
    rw [hW1, hr4, hr5]; exact h
  have hsx1 : ∀ x ∈ Sx, W1.heap[x]? = w.heap[x]? := fun x hx => by
    rw [hW1]
    exact (Below.heap_alloc _ _ x (by rw [World.size_alloc]; have := (hSx x hx).2; omega)).trans (Below.heap_alloc _ _ x (hSx x hx).2)
  have hz1 : W1.heap.size = r4 + 2 := by rw [hW1, hr4]; simp
  have H := Lib.hid (And.intro O1 (And.intro hlen (And.intro hsb (And.intro hdue (And.intro hJ (And.intro hSx (And.intro hsx1 (And.intro hz1 (And.intro E (And.intro hr4 hr5))))))))))
  clear hT
  have h4 := O1.heap 0 rfl
  have h5 := O1.heap 1 rfl
  have a4 := (cell_of_heap h4 0).trans rfl
  have a5 := (cell_of_heap h5 0).trans rfl
  have f4 := frozen_of_heap h4 0
  have f5 := frozen_of_heap h5 0
  have z4 := heap_lt h4
  have z5 := heap_lt h5
  have hr45 : r5 = r4 + 1 := by omega
  have HR := Lib.hid hr45
  have hne : ¬ r5 = r4 := by omega
  have hne2 : ¬ r4 = r5 := by omega
  by_cases hbig : 131072 < s.size
  · have hb : decide ((131072 : Int) < (s.size : Int)) = true := decide_eq_true (by omega)
    clear O1 hlen hsb hdue hJ hSx hsx1 hz1 E h4 h5
    go_enter_defers Tryz.func71, Tryz.ntmps71
    go_upto_region 1 with fail
    rw [← hW1, ← hr4, ← hr45]
    clear hW1 hr4 hr5 hr45
    go_wp2_with fail
    have e4 : ((W1.setCell ⟨r4, 0, none⟩ (.int .i64 0)).setCell ⟨r5, 0, none⟩ (.int .i64 2)).heap[r4]? = some (.cells #[.int .i64 0] 3 (0, 0)) := heap_set_ne (heap_set (H.out.1.heap 0 rfl) 0 _) (by exact hne2) _
    have e5 : ((W1.setCell ⟨r4, 0, none⟩ (.int .i64 0)).setCell ⟨r5, 0, none⟩ (.int .i64 2)).heap[r5]? = some (.cells #[.int .i64 2] 29 (0, 0)) := heap_set (heap_set_ne (H.out.1.heap 1 rfl) (by exact hne) _) 0 _
    have hb4 : w0.heap.size ≤ r4 := H.out.1.ge 0 rfl (by simp [It.fp])
    have hb5 : w0.heap.size ≤ r5 := H.out.1.ge 1 rfl (by simp [It.fp])
    have hres : rdRes T er N = (0, 2) := by unfold rdRes; rw [if_pos (by rw [H.out.2.1]; exact hbig)]
    refine ⟨_, read_results rfl e4 e5 _ rfl rfl, ?_⟩
    exact ⟨by rw [hres]; rfl, (H.out.1.bel.setCell hb4 _).setCell hb5 _, fun h => by rw [hres] at h; cases h⟩
  · have hb : decide ((131072 : Int) < (s.size : Int)) = false := decide_eq_false (by omega)
    obtain ⟨tb, htb⟩ : ∃ b, b = W1.heap.size := ⟨_, rfl⟩
    have hTl : T.length ≤ 1000000 := by rw [hlen]; exact hs
    obtain ⟨W2, hW2⟩ : ∃ W, W = W1.alloc (.cells #[.string s] 9) := ⟨_, rfl⟩
    have kl : Calls Tryz.prog 84 #[.string s] W1 fun e w' => e = .returned (.func (.func 123) #[] #[.pointer (some ⟨tb, 0, none⟩)]) ∧ w' = W2 := by
      rw [hW2, htb]; exact gLines_any s W1
    have ht2 : W2.heap[tb]? = some (.cells #[.string (bs T)] 9 (0, 0)) := by rw [hW2, htb, ← hsb]; exact heap_alloc_new _ _
    have O2 : Own w0.heap.size w0 [.blk r4 (.cells #[.int .i64 0] 3), .blk r5 (.cells #[.int .i64 0] 29)] W2 := by rw [hW2]; exact O1.below ((Below.refl _ _).alloc (Nat.le_refl _) _)
    have hbw : Below w.heap.size w W2 := by rw [hW2, hW1]; exact (((Below.refl _ _).alloc (Nat.le_refl _) _).alloc (by simp) _).alloc (by simp; omega) _
    have Ow2 : Own w.heap.size w [.blk r4 (.cells #[.int .i64 0] 3), .blk r5 (.cells #[.int .i64 0] 29)] W2 := by
      have h := ((Own.start w).alloc (.cells #[.int .i64 0] 3)).alloc (.cells #[.int .i64 0] 29)
      rw [World.size_alloc] at h
      rw [hW2, hW1, hr5, hr4]; exact h.below ((Below.refl _ _).alloc (Nat.le_refl _) _)
    have kc := gCollect_any w W2 r4 r5 tb (.cells #[.int .i64 0] 3) (.cells #[.int .i64 0] 29) rfl rfl T Ow2 ht2 (by omega) (by omega) (by omega) hTl
    have HK := Lib.hid (And.intro kl (And.intro kc hTl))
    clear O1 hlen hsb hdue hJ hSx hsx1 hz1 E h4 h5 kl kc ht2 O2 hbw htb hW2 Ow2
    go_enter_defers Tryz.func71, Tryz.ntmps71
    go_upto_region 1 with fail
    rw [← hW1, ← hr4, ← hr45]
    clear hW1 hr4 hr5 hr45
    go_upto_region 5 with (first
      | (go_at_call 84; refine HK.out.1.mono ?_; rintro e w2 ⟨rfl, rfl⟩)
      | (go_at_call 115; refine HK.out.2.1.mono ?_; rintro e w3 ⟨LA, lc, lq, rfl, o3⟩; have H3 := Lib.hid o3; clear o3))
    obtain ⟨fb, hfb⟩ : ∃ b, b = w3.heap.size := ⟨_, rfl⟩
    obtain ⟨db, hdb⟩ : ∃ b, b = w3.heap.size + 1 := ⟨_, rfl⟩
    obtain ⟨W5, hW5⟩ : ∃ W, W = (w3.alloc (.cells #[.slice LA (lines T).length lc, .int .i64 0] 182)).alloc (.cells #[.pointer (some ⟨fb, 0, none⟩)] 184) := ⟨_, rfl⟩
    have b35 : Below w3.heap.size w3 W5 := by rw [hW5]; exact ((Below.refl _ _).alloc (Nat.le_refl _) _).alloc (by simp) _
    have hfh : W5.heap[fb]? = some (.cells #[.slice LA (lines T).length lc, .int .i64 0] 182 (0, 0)) := by rw [hW5, hfb]; exact heap_alloc' (heap_alloc_new _ _) _
    have hdh : W5.heap[db]? = some (.cells #[.pointer (some ⟨fb, 0, none⟩)] 184 (0, 0)) := by
      rw [hW5, hdb]
      have := heap_alloc_new (w3.alloc (.cells #[.slice LA (lines T).length lc, .int .i64 0] 182)) (.cells #[.pointer (some ⟨fb, 0, none⟩)] 184)
      rwa [World.size_alloc] at this
    have bw5 : Below w.heap.size w W5 := H3.out.bel.trans (b35.mono H3.out.lo)
    have b05 : Below w0.heap.size w0 W5 := hB.trans (bw5.mono hB.size)
    have hfd : FeedS (fb :: Sx) W5.heap.size fb 0 (lines T) W5 := by
      have h3 := H3.out.owns 2 rfl
      refine ⟨LA, lc, hfh, h3.rd.below b35, h3.ge, h3.cap, fun b off e => ?_⟩
      have hge := H3.out.ge 2 rfl (x := b)
      rcases h3.2 with ⟨rfl, _⟩ | ⟨g, _, rfl, rfl, hh, _⟩
      · cases e
      · cases e
        have h6 := heap_lt hh
        have h7 := b35.size
        have h8 := hge (by simp [It.fp])
        refine ⟨by omega, fun hm => ?_, by omega⟩
        rcases List.mem_cons.1 hm with h | h
        · omega
        · have := (H.out.2.2.2.2.2.1 _ h).2; omega
    have kd := H.out.2.2.2.1 fb W5 b05 (by have h6 := H3.out.lt 1 rfl (x := r5) (by simp [It.fp]); have h7 := H.out.2.2.2.2.2.2.2.2.2.2; omega) hfd (fun x hx => bw5.block x (H.out.2.2.2.2.2.1 x hx).2)
    have g4 : W5.heap[r4]? = some (.cells #[.int .i64 0] 3 (0, 0)) := (b35.block r4 (heap_lt (H3.out.heap 0 rfl))).trans (H3.out.heap 0 rfl)
    have g5 : W5.heap[r5]? = some (.cells #[.int .i64 0] 29 (0, 0)) := (b35.block r5 (heap_lt (H3.out.heap 1 rfl))).trans (H3.out.heap 1 rfl)
    have hnS : r4 ∉ fb :: Sx ∧ r5 ∉ fb :: Sx ∧ db ∉ fb :: Sx := by
      have l4 := heap_lt (H3.out.heap 0 rfl)
      have l5 := heap_lt (H3.out.heap 1 rfl)
      have e4 := H.out.2.2.2.2.2.2.2.2.2
      have lo := H3.out.lo
      refine ⟨?_, ?_, ?_⟩
      all_goals
        intro hm
        rcases List.mem_cons.1 hm with h | h
        · omega
        · have := (H.out.2.2.2.2.2.1 _ h).2; omega
    have d0 := (cell_of_heap hdh 0).trans rfl
    have zd := heap_lt hdh
    have lo3 := H3.out.lo
    have hd1 : fb + 1 = db := by omega
    rw [← hfb, hd1]
    rw [← hW5]
    have HF := Lib.hid (And.intro kd (And.intro g4 (And.intro g5 (And.intro hnS (And.intro hdh (And.intro b05 (And.intro (show w.heap.size + 2 ≤ fb by have h6 := H3.out.lt 1 rfl (x := r5) (by simp [It.fp]); have h7 := H.out.2.2.2.2.2.2.2.2.2.2; omega) (And.intro bw5 hd1))))))))
    clear kd g4 g5 hnS hdh b05 bw5 hfd hfh b35 hW5 hfb hdb lo3 hd1 a4 a5 f4 f5 z4 z5
    by_cases he : er.2 = 0
    · have kd2 : Calls Tryz.prog 93 #[p, .agg #[.pointer (some ⟨fb, 0, none⟩)]] W5 fun e w' => e = .returned (.tuple #[]) ∧ Keep (fb :: Sx) W5 w' ∧ FeedS (fb :: Sx) W5.heap.size fb N ((lines T).drop N) w' ∧ J fb w' := HF.out.1.mono fun e w' h => ⟨(h.2.1 he).1, h.1, (h.2.1 he).2.1, (h.2.1 he).2.2⟩
      have hfb0 : ∀ x ∈ fb :: Sx, w0.heap.size ≤ x := fun x hx => by
        rcases List.mem_cons.1 hx with rfl | hx
        · have := hB.size; have := HF.out.2.2.2.2.2.2.1; omega
        · exact (H.out.2.2.2.2.2.1 x hx).1
      obtain ⟨R, hR⟩ : ∃ R, R = (lines T).drop N := ⟨_, rfl⟩
      rw [← hR] at kd2
      have hRl : ∀ l ∈ R, l.length ≤ 1000000 := fun l hl => by
        have h1 := (lines_len l (List.mem_of_mem_drop (by rw [hR] at hl; exact hl))).2
        have := HK.out.2.2; omega
      have hRn : R.length ≤ 1000000 := by
        rw [hR, List.length_drop]
        have := lines_few T
        have := HK.out.2.2
        omega
      have ke : ∀ W6, Keep (fb :: Sx) W5 W6 → FeedS (fb :: Sx) W5.heap.size fb N R W6 → Calls Tryz.prog 116 #[.pointer (some ⟨fb, 0, none⟩)] W6 (EndPost fb N R W6) := fun W6 k6 f6 => by
        have b6 : Below w0.heap.size w0 W6 := HF.out.2.2.2.2.2.1.trans (k6.below HF.out.2.2.2.2.2.1.size hfb0)
        exact end_any _ _ fb N R W6 f6 hRl hRn hN (Env.below H.out.2.2.2.2.2.2.2.2.1 b6) (fun w' k => Env.below H.out.2.2.2.2.2.2.2.2.1 (b6.trans (k.below b6.size (fun x hx => by rw [List.mem_singleton.1 hx]; exact hfb0 fb (by simp)))))
      have HD := Lib.hid (And.intro kd2 (And.intro ke (And.intro hR hfb0)))
      clear kd2 ke hR hfb0 hRl hRn
      by_cases h0 : endE R = 0
      · go_upto_region 7 with (first
          | (go_at_call 93; refine HD.out.1.mono ?_; rintro e w6 ⟨rfl, k6, f6, j6⟩; have e0 := (k6.cell (b := db) (o := 0) d0 HF.out.2.2.2.1.2.2); have zd6 := Nat.lt_of_lt_of_le zd k6.size; have H6 := Lib.hid (And.intro k6 (And.intro f6 j6)); clear k6 f6 j6)
          | (go_at_call 116; refine (HD.out.2.1 w6 H6.out.1 H6.out.2.1).mono ?_; rintro e w7 ⟨k7, h7, _⟩; obtain rfl := h7 h0; have H7 := Lib.hid k7; clear k7 h7))
        have hb4 : w0.heap.size ≤ r4 := H.out.1.ge 0 rfl (by simp [It.fp])
        have hb5 : w0.heap.size ≤ r5 := H.out.1.ge 1 rfl (by simp [It.fp])
        have hfb4 : r4 ≠ fb := fun e => HF.out.2.2.2.1.1 (by simp [e])
        have hfb5 : r5 ≠ fb := fun e => HF.out.2.2.2.1.2.1 (by simp [e])
        have q4 := (H7.out.block r4 (Nat.lt_of_lt_of_le (heap_lt HF.out.2.1) H6.out.1.size) (by simpa using hfb4)).trans ((H6.out.1.block r4 (heap_lt HF.out.2.1) HF.out.2.2.2.1.1).trans HF.out.2.1)
        have q5 := (H7.out.block r5 (Nat.lt_of_lt_of_le (heap_lt HF.out.2.2.1) H6.out.1.size) (by simpa using hfb5)).trans ((H6.out.1.block r5 (heap_lt HF.out.2.2.1) HF.out.2.2.2.1.2.1).trans HF.out.2.2.1)
        have b6 : Below w0.heap.size w0 w6 := HF.out.2.2.2.2.2.1.trans (H6.out.1.below HF.out.2.2.2.2.2.1.size HD.out.2.2.2)
        have b7 : Below w0.heap.size w0 w7 := b6.trans (H7.out.below b6.size (fun x hx => by rw [List.mem_singleton.1 hx]; exact HD.out.2.2.2 fb (by simp)))
        have s4 := (cell_of_heap q4 0).trans rfl
        have s5 := (cell_of_heap q5 0).trans rfl
        have t4 := frozen_of_heap q4 0
        have t5 := frozen_of_heap q5 0
        have zz4 := heap_lt q4
        have zz5 := heap_lt q5
        have HZ := Lib.hid (And.intro q4 (And.intro q5 (And.intro b7 (And.intro hb4 hb5))))
        clear q4 q5 b6 b7 hb4 hb5
        go_wp2_with fail
        refine leaves_cons (f := 114) (args := #[.pointer (some ⟨r4, 0, none⟩), .pointer (some ⟨r5, 0, none⟩)]) (by simp) (by simp [go_sem]) ?_
        refine (catch_idle ⟨r4, 0, none⟩ ⟨r5, 0, none⟩ _).mono ?_
        rintro e u' w8 ⟨rfl, rfl, rfl⟩
        have e4 : ((w7.setCell ⟨r4, 0, none⟩ (.int .i64 0)).setCell ⟨r5, 0, none⟩ (.int .i64 0)).heap[r4]? = some (.cells #[.int .i64 0] 3 (0, 0)) := heap_set_ne (heap_set HZ.out.1 0 _) (by exact hne2) _
        have e5 : ((w7.setCell ⟨r4, 0, none⟩ (.int .i64 0)).setCell ⟨r5, 0, none⟩ (.int .i64 0)).heap[r5]? = some (.cells #[.int .i64 0] 29 (0, 0)) := heap_set (heap_set_ne HZ.out.2.1 (by exact hne) _) 0 _
        have hres : rdRes T er N = (0, 0) := by unfold rdRes; rw [if_neg (by rw [H.out.2.1]; omega), if_neg (not_not_intro he), end_close, ← HD.out.2.2.1, if_pos h0]
        have kz : Keep [w.heap.size, w.heap.size + 1, fb] w6 ((w7.setCell ⟨r4, 0, none⟩ (.int .i64 0)).setCell ⟨r5, 0, none⟩ (.int .i64 0)) := by
          rw [← H.out.2.2.2.2.2.2.2.2.2.2, ← H.out.2.2.2.2.2.2.2.2.2.1]
          exact ((H7.out.mono (S' := [r4, r5, fb]) (fun x hx => .inl (by rw [List.mem_singleton.1 hx]; simp))).setCell (p := ⟨r4, 0, none⟩) (.inl (by simp)) _).setCell (p := ⟨r5, 0, none⟩) (.inl (by simp)) _
        simp only [Leaves, settle]
        refine ⟨_, read_results rfl e4 e5 _ rfl rfl, ?_⟩
        exact ⟨by rw [hres]; rfl, (HZ.out.2.2.1.setCell HZ.out.2.2.2.1 _).setCell HZ.out.2.2.2.2 _, fun _ => ⟨fb, by have := HF.out.2.2.2.2.2.2.1; omega, H.out.2.2.2.2.1 fb w6 _ H6.out.2.2 kz⟩⟩
      · go_wp2_with (first
          | (go_at_call 93; refine HD.out.1.mono ?_; rintro e w6 ⟨rfl, k6, f6, j6⟩; have e0 := (k6.cell (b := db) (o := 0) d0 HF.out.2.2.2.1.2.2); have zd6 := Nat.lt_of_lt_of_le zd k6.size; have H6 := Lib.hid (And.intro k6 (And.intro f6 j6)); clear k6 f6 j6)
          | (go_at_call 116; refine (HD.out.2.1 w6 H6.out.1 H6.out.2.1).mono ?_; rintro e w7 ⟨k7, _, h7⟩; obtain rfl := h7 h0; unfold FailE; have H7 := Lib.hid k7; clear k7 h7))
        refine leaves_cons (f := 114) (args := #[.pointer (some ⟨r4, 0, none⟩), .pointer (some ⟨r5, 0, none⟩)]) (by simp) (by simp [go_sem]) ?_
        have hb4 : w0.heap.size ≤ r4 := H.out.1.ge 0 rfl (by simp [It.fp])
        have hb5 : w0.heap.size ≤ r5 := H.out.1.ge 1 rfl (by simp [It.fp])
        have hfb4 : r4 ≠ fb := fun e => HF.out.2.2.2.1.1 (by simp [e])
        have hfb5 : r5 ≠ fb := fun e => HF.out.2.2.2.1.2.1 (by simp [e])
        have q4 := (H7.out.block r4 (Nat.lt_of_lt_of_le (heap_lt HF.out.2.1) H6.out.1.size) (by simpa using hfb4)).trans ((H6.out.1.block r4 (heap_lt HF.out.2.1) HF.out.2.2.2.1.1).trans HF.out.2.1)
        have q5 := (H7.out.block r5 (Nat.lt_of_lt_of_le (heap_lt HF.out.2.2.1) H6.out.1.size) (by simpa using hfb5)).trans ((H6.out.1.block r5 (heap_lt HF.out.2.2.1) HF.out.2.2.2.1.2.1).trans HF.out.2.2.1)
        have b6 : Below w0.heap.size w0 w6 := HF.out.2.2.2.2.2.1.trans (H6.out.1.below HF.out.2.2.2.2.2.1.size HD.out.2.2.2)
        have b7 : Below w0.heap.size w0 w7 := b6.trans (H7.out.below b6.size (fun x hx => by rw [List.mem_singleton.1 hx]; exact HD.out.2.2.2 fb (by simp)))
        refine (catch_fail r4 r5 (N + 1 : Nat) (endE R) 0 0 [] w7 q4 q5 hne2).mono ?_
        rintro e u' w8 ⟨rfl, rfl, k8, e4, e5⟩
        have b8 : Below w0.heap.size w0 w8 := b7.trans (k8.below b7.size (fun x hx => by simp at hx; rcases hx with rfl | rfl; exact hb4; exact hb5))
        have hres : rdRes T er N = (N + 1, endE R) := by unfold rdRes; rw [if_neg (by rw [H.out.2.1]; omega), if_neg (not_not_intro he), end_close, ← HD.out.2.2.1, if_neg h0]
        simp only [Leaves, settle]
        refine ⟨_, read_results rfl e4 e5 _ rfl rfl, ?_⟩
        exact ⟨by rw [hres], b8, fun h => by rw [hres] at h; exact absurd h h0⟩
    · have kd2 : Calls Tryz.prog 93 #[p, .agg #[.pointer (some ⟨fb, 0, none⟩)]] W5 fun e w' => e = FailE er.1 er.2 ∧ Keep (fb :: Sx) W5 w' := HF.out.1.mono fun e w' h => ⟨h.2.2 he, h.1⟩
      have HD := Lib.hid kd2
      clear kd2
      go_wp2_with (go_at_call 93; refine HD.out.mono ?_; unfold FailE; rintro e w6 ⟨rfl, k6⟩; have H6 := Lib.hid k6; clear k6)
      refine leaves_cons (f := 114) (args := #[.pointer (some ⟨r4, 0, none⟩), .pointer (some ⟨r5, 0, none⟩)]) (by simp) (by simp [go_sem]) ?_
      have q4 := (H6.out.block r4 (heap_lt HF.out.2.1) HF.out.2.2.2.1.1).trans HF.out.2.1
      have q5 := (H6.out.block r5 (heap_lt HF.out.2.2.1) HF.out.2.2.2.1.2.1).trans HF.out.2.2.1
      refine (catch_fail r4 r5 er.1 er.2 0 0 [] w6 q4 q5 hne2).mono ?_
      rintro e u' w7 ⟨rfl, rfl, k7, e4, e5⟩
      have hb4 : w0.heap.size ≤ r4 := H.out.1.ge 0 rfl (by simp [It.fp])
      have hb5 : w0.heap.size ≤ r5 := H.out.1.ge 1 rfl (by simp [It.fp])
      have hres : rdRes T er N = er := by unfold rdRes; rw [if_neg (by rw [H.out.2.1]; omega), if_pos he]
      have hfb0 : ∀ x ∈ fb :: Sx, w0.heap.size ≤ x := fun x hx => by
        rcases List.mem_cons.1 hx with rfl | hx
        · have := hB.size; have := HF.out.2.2.2.2.2.2.1; omega
        · exact (H.out.2.2.2.2.2.1 x hx).1
      have kS6 : Below w0.heap.size w0 w6 := HF.out.2.2.2.2.2.1.trans (H6.out.below HF.out.2.2.2.2.2.1.size hfb0)
      have kS : Below w0.heap.size w0 w7 := kS6.trans (k7.below kS6.size (fun x hx => by simp at hx; rcases hx with rfl | rfl; exact hb4; exact hb5))
      simp only [Leaves, settle]
      refine ⟨_, read_results rfl e4 e5 _ rfl rfl, ?_⟩
      exact ⟨by rw [hres], kS, fun h => by rw [hres] at h; exact absurd h he⟩
end Go.Proofs.YtaokegobilphnaaGreatDoor
