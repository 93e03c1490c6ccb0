/- (*log.charting).due: the loop over the runs (printed by tools/lgx.py) -/
import Derived.Test.YtaokegobilphnaaGreatDoorLLp20
set_option linter.unusedVariables false
set_option linter.unusedSimpArgs false
namespace Go.Proofs.YtaokegobilphnaaGreatDoor
open Go Go.RowKit Go.Shelf Go.Proofs Sp Lg
set_option linter.unusedVariables false
set_option linter.unusedSimpArgs false

theorem cel_ne (x y : Cel) (w : World) : (binOp .neq 73 (.agg (celA x)) (.agg (celA y))).run Tryz.prog w = .ok (.bool (!decide (x = y))) w := by
  have hS : Tryz.prog.underlying 73 = some (.struct (Tryz.prog.fieldsOf 73)) := by kernel_rfl
  have hp : Tryz.prog.stoodInHeld 73 = false := by kernel_rfl
  have u3 := Tryz.underlying71
  have z3 := Tryz.sizeOf71
  rw [run_neq_struct, show (10000 : Nat) = 9999 + 1 from rfl, run_equalIn_agg w 9999 73 _ _ hS hp]
  simp only [Program.fieldsOf, Tryz.underlying73]
  go_simp
  obtain ⟨a0, a1, b0, b1, c0, c1, d0, d1⟩ := x
  obtain ⟨e0, e1, f0, f1, g0, g1, h0, h1⟩ := y
  simp only [Cel.mk.injEq]
  repeat' split
  all_goals simp_all
set_option maxRecDepth 100000 in
set_option maxHeartbeats 4000000 in
theorem dueC_t5 {Q0 : Exit → Act → World → Prop} (L : List By) (hb r4 r5 fb db g n : Nat) (a b c : Int) (w0 W wr : World) (S : DcS w0 W L hb r4 r5 fb db g a b c n 1 [] wr) (hn : n ≤ 1024) (hd : chL L = ((a, b, c), chF L n (n + 1) 1 [])) {s1 s2 s4 s5 s6 s7 s8 s9 s10 s11 s12 s13 s14 s15 s16 s17 s18 s19 s20 s21 s22 s23 s24 s25 s26 s27 s28 s29 s30 s31 s32 s33 s34 s35 s36 s37 s38 s39 s40 s41 s42 s43 s44 s45 s46 s47 s48 s49 s50 s51 s52 s53 s54 s55 s56 s57 s58 s59 s60 s61 s62 s63 s64 s65 s66 s67 s68 s69 s70 s71 s72 s73 s74 s75 s76 s77 s78 s79 s80 s81 s82 s83 s84 s85 s86 s87 s88 s89 s90 s91 s92 s93 s94 s95 s96 s97 s98 s99 s100 s101 s102 s103 s104 s105 s106 s107 s108 s109 s110 s111 s112 s113 s114 s115 s116 s117 s118 s119 s120 s121 s122 s123 s124 : Value} (hQ0 : ∀ e1 a1 w1, bodyPost Tryz.prog Tryz.f93 (DueR [hb] fb L (chL L).2.2.1 (chL L).2.2.2 (ChJ w0 hb r4 r5 (chL L).1.1 (chL L).1.2.1 (chL L).1.2.2 (chL L).2.1) W) e1 a1 w1 → Q0 e1 a1 w1) :
    Code.wp Tryz.prog (restOf Tryz.f93 5) Q0 ⟨#[.pointer (some ⟨hb, 0, none⟩), s1, s2, .pointer (some ⟨db, 0, none⟩), s4, s5, s6, s7, s8, s9, s10, s11, s12, s13, s14, s15, s16, s17, s18, s19, s20, s21, s22, s23, s24, s25, s26, s27, s28, s29, s30, s31, s32, s33, s34, s35, s36, s37, s38, s39, s40, s41, s42, s43, s44, s45, s46, s47, s48, s49, s50, s51, s52, s53, s54, s55, s56, s57, s58, s59, s60, s61, s62, s63, s64, s65, s66, s67, s68, s69, s70, s71, s72, s73, s74, s75, s76, s77, s78, s79, s80, s81, s82, s83, s84, s85, s86, s87, s88, s89, s90, s91, s92, s93, s94, s95, s96, s97, s98, s99, s100, s101, s102, s103, s104, s105, s106, s107, s108, s109, s110, s111, s112, s113, s114, s115, s116, s117, s118, s119, s120, s121, s122, s123, s124], []⟩ wr := by
  refine wp_mono ?_ hQ0
  clear hQ0
  conv => arg 2; whnf
  have HS := Lib.hid (And.intro S hd)
  clear S hd
  go_wp2_with fail
  go_loopg [7] n (fun gk e wr => ∃ (out : List Cel) (i f : Nat), gk + out.length = n ∧ e = .int .i64 out.length ∧ i ≤ out.length + 1 ∧ n ≤ f + out.length ∧ chL L = ((a, b, c), chF L n (f + 1) i out) ∧ DcS w0 W L hb r4 r5 fb db g a b c n i out wr)
  case atStart => exact ⟨[], 1, n, by simp, rfl, by simp, by simp, HS.out.2, HS.out.1⟩
  case round =>
    obtain ⟨out, i, f, hgk, rfl, hif, hfn, hd, S⟩ := hrel
    obtain ⟨j, hj⟩ : ∃ j, j = out.length := ⟨_, rfl⟩
    rw [← hj] at hgk hif hfn
    rw [← hj]
    have q3 := (cell_of_heap (S.o.heap 0 rfl) 3).trans rfl
    have zh := heap_lt (S.o.heap 0 rfl)
    by_cases hlt : j < n
    · obtain ⟨V, hV⟩ : ∃ v, v = wr.drew := ⟨_, rfl⟩
      have S1 := S.keepB (w' := V) (by rw [hV]; exact (Below.refl _ _).drew)
      have kn := S1.next (by omega)
      have d1 := (cell_of_heap (S1.o.heap 4 rfl) 0).trans rfl
      have z1 := heap_lt (S1.o.heap 4 rfl)
      have hdf : db ∉ [fb] := by simpa using S1.fresh
      have HJ := Lib.hid hj
      rw [chF, if_pos (by omega)] at hd
      clear hj S
      by_cases h9 : lineS L i = 0
      · have kn2 : Calls Tryz.prog 117 #[.pointer (some ⟨fb, 0, none⟩)] V fun e w' => e = .returned (.string (bs (Lg.body (L.getD i [])))) ∧ DcS w0 W L hb r4 r5 fb db g a b c n (i + 1) out w' ∧ Keep [fb] V w' := kn.mono fun e w' h => by
          obtain ⟨k1, k2⟩ := h
          rw [if_pos h9] at k2
          exact ⟨k2.1, k2.2, k1⟩
        rw [if_neg (not_not_intro h9)] at hd
        obtain ⟨B, hB⟩ : ∃ B, B = Lg.body (L.getD i []) := ⟨_, rfl⟩
        have hBl : B.length ≤ 1000000 := by rw [hB]; exact S1.body
        rw [← hB] at hd kn2
        clear hB kn
        have kW := S1.k
        cases hc : nums B [] 9 with
        | none =>
          rw [hc] at hd
          simp only at hd
          have H := Lib.hid (And.intro kn2 (And.intro hd (And.intro hBl (And.intro hc kW))))
          clear kn2 hd hBl hc h9 S1 kW
          go_upto_region 7 with fail
          refine wp_region_held_drew (S := fun w' => db < w'.heap.size ∧ w'.cell? ⟨db, 0, none⟩ = some (.pointer (some ⟨fb, 0, none⟩))) (by kernel_rfl) (by rw [← hV]; exact ⟨z1, d1⟩) (fun hHeld => ?_)
          rw [← hV] at hHeld ⊢; clear hV
          refine wpAnyH_take (i := 0) (oi := _) (v := ?_) rfl (by kernel_rfl) (by kernel_rfl) (by kernel_rfl) (fun _ _ _ h => h) (Or.inl ⟨by rfl, ?_⟩) (by assumption) ?_
          rotate_left
          · (intro w hSw; (try dsimp only at hSw); go_simp; try with_reducible rfl)
          try simp only [Act.put, List.setIfInBounds_toArray, List.set_cons_zero, List.set_cons_succ]
          refine wpAnyH_take (i := 1) (oi := _) (v := ?_) rfl (by kernel_rfl) (by kernel_rfl) (by kernel_rfl) (fun _ _ _ h => h) (Or.inl ⟨by rfl, ?_⟩) (by assumption) ?_
          rotate_left
          · (intro w hSw; (try dsimp only at hSw); go_simp; try with_reducible rfl)
          try simp only [Act.put, List.setIfInBounds_toArray, List.set_cons_zero, List.set_cons_succ]
          refine wpAnyH_take (i := 2) (oi := _) (v := ?_) rfl (by kernel_rfl) (by kernel_rfl) (by kernel_rfl) (fun _ _ _ h => h) (Or.inl ⟨by rfl, ?_⟩) (by assumption) ?_
          rotate_left
          · (intro w hSw; (try dsimp only at hSw); go_simp; try with_reducible rfl)
          try simp only [Act.put, List.setIfInBounds_toArray, List.set_cons_zero, List.set_cons_succ]
          refine wpAnyH_ready (rs := [3]) (by kernel_rfl) (by simp) ?_
          refine AllReadyH.cons (o := _) rfl (fun K hK => ?_) AllReadyH.nil
          go_simp
          go_wp2_with (go_at_call 117; refine H.out.1.mono ?_; rintro e w2 ⟨rfl, s2, k2⟩; have d2 := k2.cell (b := db) (o := 0) d1 hdf; have z2 := Nat.lt_of_lt_of_le z1 k2.size; have n2 := s2.f.num; have HN := Lib.hid (And.intro s2 k2); clear s2 k2)
          refine hK.out _ _ ⟨z2, d2⟩ (fun hHeld => ?_)
          clear hK K
          try simp only [Act.put, List.setIfInBounds_toArray, List.set_cons_zero, List.set_cons_succ]
          refine wpAnyH_ready (rs := [4]) (by kernel_rfl) (by simp) ?_
          refine AllReadyH.cons (o := _) rfl (fun K hK => ?_) AllReadyH.nil
          go_simp
          go_wp2_with (go_at_call 135; refine (gNumbers_any fb (i + 1) B [] 9 w2 H.out.2.2.1 n2 (Env.below HN.out.1.E HN.out.1.o.bel) (by decide)).mono ?_; rintro e w3 ⟨b3, h3, _⟩; obtain rfl := h3 H.out.2.2.2.1; unfold FailE; have HM := Lib.hid b3; clear b3 h3)
          exact ⟨rfl, dc_fail (ln := i + 1) (e := 3) (by rw [H.out.2.1]) (by decide) ((H.out.2.2.2.2.trans HN.out.2 (fun x hx => .inl (by simp at hx; simp [hx]))).trans (Keep.of_below (S := []) HM.out) (by simp))⟩
        | some vs =>
          have hv9 : vs.length = 9 := by
            unfold nums at hc
            split at hc
            · cases hc
            · split at hc
              · rw [allN_len hc]; assumption
              · cases hc
          obtain ⟨v0, v1, v2, v3, v4, v5, v6, v7, v8, rfl⟩ : ∃ v0 v1 v2 v3 v4 v5 v6 v7 v8, vs = [v0, v1, v2, v3, v4, v5, v6, v7, v8] := by
            match vs, hv9 with
            | [v0, v1, v2, v3, v4, v5, v6, v7, v8], _ => exact ⟨v0, v1, v2, v3, v4, v5, v6, v7, v8, rfl⟩
          rw [hc] at hd
          simp only [List.getD_cons_zero] at hd
          obtain ⟨x, hx⟩ : ∃ x, x = celO [v0, v1, v2, v3, v4, v5, v6, v7, v8] := ⟨_, rfl⟩
          rw [← hx] at hd
          have hxi : celI x = [(v1 : Int), (v2 : Int), (v3 : Int), (v4 : Int), (v5 : Int), (v6 : Int), (v7 : Int), (v8 : Int)] := by rw [hx]; rfl
          clear hx hv9
          have H := Lib.hid (And.intro kn2 (And.intro hd (And.intro hBl (And.intro hc (And.intro hxi kW)))))
          clear kn2 hd hBl hc h9 S1 hxi kW
          go_upto_region 7 with fail
          refine wp_region_held_drew (S := fun w' => db < w'.heap.size ∧ w'.cell? ⟨db, 0, none⟩ = some (.pointer (some ⟨fb, 0, none⟩))) (by kernel_rfl) (by rw [← hV]; exact ⟨z1, d1⟩) (fun hHeld => ?_)
          rw [← hV] at hHeld ⊢; clear hV
          refine wpAnyH_take (i := 0) (oi := _) (v := ?_) rfl (by kernel_rfl) (by kernel_rfl) (by kernel_rfl) (fun _ _ _ h => h) (Or.inl ⟨by rfl, ?_⟩) (by assumption) ?_
          rotate_left
          · (intro w hSw; (try dsimp only at hSw); go_simp; try with_reducible rfl)
          try simp only [Act.put, List.setIfInBounds_toArray, List.set_cons_zero, List.set_cons_succ]
          refine wpAnyH_take (i := 1) (oi := _) (v := ?_) rfl (by kernel_rfl) (by kernel_rfl) (by kernel_rfl) (fun _ _ _ h => h) (Or.inl ⟨by rfl, ?_⟩) (by assumption) ?_
          rotate_left
          · (intro w hSw; (try dsimp only at hSw); go_simp; try with_reducible rfl)
          try simp only [Act.put, List.setIfInBounds_toArray, List.set_cons_zero, List.set_cons_succ]
          refine wpAnyH_take (i := 2) (oi := _) (v := ?_) rfl (by kernel_rfl) (by kernel_rfl) (by kernel_rfl) (fun _ _ _ h => h) (Or.inl ⟨by rfl, ?_⟩) (by assumption) ?_
          rotate_left
          · (intro w hSw; (try dsimp only at hSw); go_simp; try with_reducible rfl)
          try simp only [Act.put, List.setIfInBounds_toArray, List.set_cons_zero, List.set_cons_succ]
          refine wpAnyH_ready (rs := [3]) (by kernel_rfl) (by simp) ?_
          refine AllReadyH.cons (o := _) rfl (fun K hK => ?_) AllReadyH.nil
          go_simp
          go_wp2_with (go_at_call 117; refine H.out.1.mono ?_; rintro e w2 ⟨rfl, s2, k2⟩; have d2 := k2.cell (b := db) (o := 0) d1 hdf; have z2 := Nat.lt_of_lt_of_le z1 k2.size; have n2 := s2.f.num; have HN := Lib.hid (And.intro s2 k2); clear s2 k2)
          refine hK.out _ _ ⟨z2, d2⟩ (fun hHeld => ?_)
          clear hK K
          try simp only [Act.put, List.setIfInBounds_toArray, List.set_cons_zero, List.set_cons_succ]
          refine wpAnyH_ready (rs := [4]) (by kernel_rfl) (by simp) ?_
          refine AllReadyH.cons (o := _) rfl (fun K hK => ?_) AllReadyH.nil
          go_simp
          go_wp2_with (go_at_call 135; refine (gNumbers_any fb (i + 1) B [] 9 w2 H.out.2.2.1 n2 (Env.below HN.out.1.E HN.out.1.o.bel) (by decide)).mono ?_; rintro e w3 ⟨b3, _, h3⟩; obtain ⟨A, c4, q, rfl, ow, hq⟩ := h3 _ H.out.2.2.2.1; have d3 := (b3.cell (p := ⟨db, 0, none⟩) z2).trans d2; have z3 := Nat.lt_of_lt_of_le z2 b3.size; have s3 := HN.out.1.keepB b3; have n3 := s3.f.num; have HM := Lib.hid (And.intro s3 (And.intro b3 (And.intro ow hq))); clear b3 h3 ow hq s3)
          refine hK.out _ _ ⟨z3, d3⟩ (fun hHeld => ?_)
          clear hK K
          try simp only [Act.put, List.setIfInBounds_toArray, List.set_cons_zero, List.set_cons_succ]
          refine wpAnyH_take (i := 5) (oi := _) (v := ?_) rfl (by kernel_rfl) (by kernel_rfl) (by kernel_rfl) (fun _ _ _ h => h) (Or.inl ⟨by rfl, ?_⟩) (by assumption) ?_
          rotate_left
          · (intro w hSw; (try dsimp only at hSw); go_simp; try with_reducible rfl)
          try simp only [Act.put, List.setIfInBounds_toArray, List.set_cons_zero, List.set_cons_succ]
          refine wpAnyH_done (by kernel_rfl) ?_ _
          try dsimp only
          try simp only [Exit.then, Exit.inBlock, List.set_cons_zero, List.set_cons_succ]
          obtain ⟨g4, cur, rfl, _, hh, _, _, _, hcu⟩ := HM.out.2.2.1.2.resolve_left (by rintro ⟨_, h, _⟩; cases h)
          have hc9 : 9 ≤ c4 := HM.out.2.2.1.ge
          have e0 : w3.cell? ⟨g4, 0, none⟩ = some (.int .i64 v0) := (cell_of_heap hh 0).trans (hcu 0 _ rfl)
          have zg4 := heap_lt hh
          obtain ⟨a0, a1, b0, b1, c0, c1, d0', d1'⟩ := x
          have rd8 : Rd w3 1 (some ⟨g4, 1, none⟩) 8 (ints (celI ⟨a0, a1, b0, b1, c0, c1, d0', d1'⟩)) := by
            refine ⟨rfl, fun _ => ⟨g4, 1, rfl, zg4, fun j u hu => ?_⟩⟩
            have h9 := hcu (1 + j) u (by rw [Nat.add_comm]; rw [H.out.2.2.2.2.1] at hu; simpa [ints] using hu)
            exact (cell_of_heap hh _).trans h9
          have H8 := Lib.hid (And.intro hh (And.intro hcu rd8))
          clear hh hcu rd8
          go_upto_region 9 with (first
            | (go_at_call 137; refine (gCell_any _ _ _ w3 H8.out.2.2).mono ?_; rintro e w4 ⟨rfl, b4⟩; have HC := Lib.hid b4; clear b4))
          obtain ⟨xb, hxb⟩ : ∃ b, b = w4.heap.size := ⟨_, rfl⟩
          obtain ⟨u5, hu5⟩ : ∃ u, u = w4.alloc (.cells #[.int .i64 a0, .int .i64 a1, .int .i64 b0, .int .i64 b1, .int .i64 c0, .int .i64 c1, .int .i64 d0', .int .i64 d1'] 73) := ⟨_, rfl⟩
          have x5 : u5.heap[xb]? = some (.cells #[.int .i64 a0, .int .i64 a1, .int .i64 b0, .int .i64 b1, .int .i64 c0, .int .i64 c1, .int .i64 d0', .int .i64 d1'] 73 (0, 0)) := by rw [hu5, hxb]; exact heap_alloc_new _ _
          have s4 := HM.out.1.keepB HC.out
          have b45 : Below w4.heap.size w4 u5 := by rw [hu5]; exact (Below.refl _ _).alloc (Nat.le_refl _) _
          have s5 := s4.keepB b45
          have b35 : Below w3.heap.size w3 u5 := HC.out.trans (b45.mono HC.out.size)
          have e5 : u5.cell? ⟨g4, 0, none⟩ = some (.int .i64 v0) := (b35.cell (p := ⟨g4, 0, none⟩) zg4).trans e0
          have zg5 := Nat.lt_of_lt_of_le zg4 b35.size
          have d5 := (b35.cell (p := ⟨db, 0, none⟩) z3).trans d3
          have z5 := Nat.lt_of_lt_of_le z3 b35.size
          have hxg : xb ≠ g := by have := s4.o.lt 5 rfl (x := g) (by simp [It.fp]); omega
          have zx5 := heap_lt x5
          rw [← hu5, ← hxb]
          have H5 := Lib.hid (And.intro s5 (And.intro x5 hxg))
          have x50 := (cell_of_heap H5.out.2.1 0).trans rfl
          have x51 := (cell_of_heap H5.out.2.1 1).trans rfl
          have x52 := (cell_of_heap H5.out.2.1 2).trans rfl
          have x53 := (cell_of_heap H5.out.2.1 3).trans rfl
          have x54 := (cell_of_heap H5.out.2.1 4).trans rfl
          have x55 := (cell_of_heap H5.out.2.1 5).trans rfl
          have x56 := (cell_of_heap H5.out.2.1 6).trans rfl
          have x57 := (cell_of_heap H5.out.2.1 7).trans rfl
          clear hu5 hxb s4 b45 b35 s5 x5 hxg d3 z3 n3 d2 z2 n2 d1 z1 e0 zg4
          by_cases hok : celOk (⟨a0, a1, b0, b1, c0, c1, d0', d1'⟩ : Cel) = true
          · have kc : ∀ u, Calls Tryz.prog 130 #[.agg #[.int .i64 a0, .int .i64 a1, .int .i64 b0, .int .i64 b1, .int .i64 c0, .int .i64 c1, .int .i64 d0', .int .i64 d1']] u fun e w' => e = .returned (.int .i64 0) ∧ Below u.heap.size u w' := fun u => by
              have h := checkCell_any (⟨a0, a1, b0, b1, c0, c1, d0', d1'⟩ : Cel) u
              rw [show celE (⟨a0, a1, b0, b1, c0, c1, d0', d1'⟩ : Cel) = 0 from by unfold celE; rw [if_pos hok]] at h
              exact h
            have hd := H.out.2.1
            rw [if_neg (by rw [hok]; simp)] at hd
            have HD := Lib.hid (And.intro kc hd)
            clear kc hd hok
            go_upto_region 11 with (first
              | (go_at_call 130; refine (HD.out.1 u5).mono ?_; rintro e u6 ⟨rfl, b6⟩; have d6 := (b6.cell (p := ⟨db, 0, none⟩) z5).trans d5; have z6 := Nat.lt_of_lt_of_le z5 b6.size; have e6 := (b6.cell (p := ⟨g4, 0, none⟩) zg5).trans e5; have zg6 := Nat.lt_of_lt_of_le zg5 b6.size; have n6 := (H5.out.1.keepB b6).f.num; have H6 := Lib.hid (And.intro (H5.out.1.keepB b6) (And.intro ((b6.block xb zx5).trans H5.out.2.1) b6)); clear b6)
              | (go_at_call 118; refine (want_yes _ 0 u6).mono ?_; rintro e w9 ⟨rfl, h9⟩; have h9' := h9.symm; clear h9; subst h9'))
            have q6 := (cell_of_heap (H6.out.1.o.heap 0 rfl) 3).trans rfl
            have zh6 := heap_lt (H6.out.1.o.heap 0 rfl)
            obtain ⟨r, hr⟩ : ∃ r : Nat, r + j = n := ⟨n - j, by omega⟩
            have hrr : (n : Int) - (j : Int) = (r : Int) := by omega
            have hwr : IntKind.i64.wrap (r : Int) = (r : Int) := IntWalk.i64_in _ (by omega)
            have HRR := Lib.hid hr
            by_cases hm : 0 < v0 ∧ v0 ≤ r
            · have g1 : decide ((0 : Int) < (v0 : Int)) = true := decide_eq_true (by omega)
              have g2 : decide ((v0 : Int) ≤ (r : Int)) = true := decide_eq_true (by omega)
              have g1' : decide (0 < v0) = true := decide_eq_true hm.1
              have g2' : decide (v0 ≤ r) = true := decide_eq_true hm.2
              have hm1 : 0 < v0 := hm.1
              have hd := HD.out.2
              rw [if_neg (by have := HJ.out; omega)] at hd
              have HE := Lib.hid (And.intro hd hm)
              clear hd hr hm
              go_quiet ((go_at_call 118; exact Calls.quiet_of_same (want_yes _ 2 _)))
              obtain ⟨u7, hu7⟩ : ∃ u, u = u6.drewN nq := ⟨_, rfl⟩
              have b67 : Below u6.heap.size u6 u7 := by rw [hu7]; exact below_drewN (Below.refl _ _) _
              have s7 := H6.out.1.keepB b67
              have x7 := (b67.block xb (heap_lt H6.out.2.1)).trans H6.out.2.1
              have d7 := (b67.cell (p := ⟨db, 0, none⟩) z6).trans d6
              have e7 := (b67.cell (p := ⟨g4, 0, none⟩) zg6).trans e6
              have q7 := (b67.cell (p := ⟨hb, 3, none⟩) zh6).trans q6
              have z7 := Nat.lt_of_lt_of_le z6 b67.size
              have zg7 := Nat.lt_of_lt_of_le zg6 b67.size
              have zh7 := Nat.lt_of_lt_of_le zh6 b67.size
              have n7 := s7.f.num
              have zx7 := heap_lt x7
              have x70 := (cell_of_heap x7 0).trans rfl
              have x71 := (cell_of_heap x7 1).trans rfl
              have x72 := (cell_of_heap x7 2).trans rfl
              have x73 := (cell_of_heap x7 3).trans rfl
              have x74 := (cell_of_heap x7 4).trans rfl
              have x75 := (cell_of_heap x7 5).trans rfl
              have x76 := (cell_of_heap x7 6).trans rfl
              have x77 := (cell_of_heap x7 7).trans rfl
              rw [← hu7]
              have H7 := Lib.hid (And.intro s7 x7)
              clear hu7 b67 s7 x7 d6 e6 q6 z6 zg6 zh6 n6 d5 e5 z5 zg5 zx5 x50 x51 x52 x53 x54 x55 x56 x57
              go_upto_region 12 with fail
              go_cut [] from 84 to 101 (fun wx => (¬ (out ≠ [] ∧ out.getLast?.getD default = (⟨a0, a1, b0, b1, c0, c1, d0', d1'⟩ : Cel))) ∧ ∃ nq, wx = u7.drewN nq)
              case first =>
                by_cases hj0 : j = 0
                · have hb0 : ((j : Int) == 0) = true := by rw [hj0]; rfl
                  have hol : out = [] := List.length_eq_zero_iff.1 (HJ.out.symm.trans hj0)
                  have HO := Lib.hid hol
                  clear hol hj0
                  go_quiet ((go_at_call 118; exact Calls.quiet_of_same (want_yes _ 11 _)))
                  go_wp2_with fail
                  go_meet
                  exact ⟨fun h => h.1 HO.out, nq, rfl⟩
                · obtain ⟨jp, hjp⟩ : ∃ k, k + 1 = j := ⟨j - 1, by omega⟩
                  have hjj : (j : Int) - 1 = (jp : Int) := by omega
                  have hb0 : ((j : Int) == 0) = false := by rw [beq_eq_false_iff_ne]; omega
                  have hol : jp < out.length := by have := HJ.out; omega
                  have hg := H7.out.1.o.heap 5 rfl
                  have hle : jp < (out ++ List.replicate (n - out.length) celW).length := by rw [List.length_append]; omega
                  obtain ⟨y, hy⟩ : ∃ y, y = (out ++ List.replicate (n - out.length) celW)[jp]'hle := ⟨_, rfl⟩
                  have hyl : out.getLast?.getD default = y := by
                    rw [hy, List.getElem_append_left hol, List.getLast?_eq_getElem?, show out.length - 1 = jp from by have := HJ.out; omega, List.getElem?_eq_getElem hol]; rfl
                  obtain ⟨t0, t1, t2, t3, t4, t5, t6, t7⟩ := cels_get hle
                  rw [← hy] at t0 t1 t2 t3 t4 t5 t6 t7
                  have hne0 : out ≠ [] := fun e => by rw [e] at hol; simp at hol
                  obtain ⟨p0, p1, p2, p3, p4, p5, p6, p7⟩ := y
                  have y0 : u7.cell? ⟨g, jp * 8, none⟩ = some (.int .i64 p0) := (cell_of_heap hg (jp * 8)).trans (List.getElem?_toArray.trans t0)
                  have y1 : u7.cell? ⟨g, jp * 8 + 1, none⟩ = some (.int .i64 p1) := (cell_of_heap hg (jp * 8 + 1)).trans (List.getElem?_toArray.trans t1)
                  have y2 : u7.cell? ⟨g, jp * 8 + 2, none⟩ = some (.int .i64 p2) := (cell_of_heap hg (jp * 8 + 2)).trans (List.getElem?_toArray.trans t2)
                  have y3 : u7.cell? ⟨g, jp * 8 + 3, none⟩ = some (.int .i64 p3) := (cell_of_heap hg (jp * 8 + 3)).trans (List.getElem?_toArray.trans t3)
                  have y4 : u7.cell? ⟨g, jp * 8 + 4, none⟩ = some (.int .i64 p4) := (cell_of_heap hg (jp * 8 + 4)).trans (List.getElem?_toArray.trans t4)
                  have y5 : u7.cell? ⟨g, jp * 8 + 5, none⟩ = some (.int .i64 p5) := (cell_of_heap hg (jp * 8 + 5)).trans (List.getElem?_toArray.trans t5)
                  have y6 : u7.cell? ⟨g, jp * 8 + 6, none⟩ = some (.int .i64 p6) := (cell_of_heap hg (jp * 8 + 6)).trans (List.getElem?_toArray.trans t6)
                  have y7 : u7.cell? ⟨g, jp * 8 + 7, none⟩ = some (.int .i64 p7) := (cell_of_heap hg (jp * 8 + 7)).trans (List.getElem?_toArray.trans t7)
                  have zgg := heap_lt hg
                  have jl : jp < n := by omega
                  have jl2 : (jp : Int) < (n : Int) := by omega
                  have j00 : (0 : Int) ≤ (jp : Int) := by omega
                  have hwj : IntKind.i64.wrap (jp : Int) = (jp : Int) := IntWalk.i64_in _ (by omega)
                  clear t0 t1 t2 t3 t4 t5 t6 t7 hy hle hg hjp hj0
                  by_cases hyx : (⟨p0, p1, p2, p3, p4, p5, p6, p7⟩ : Cel) = (⟨a0, a1, b0, b1, c0, c1, d0', d1'⟩ : Cel)
                  · have hE : ∀ w, (binOp .neq 73 (.agg #[.int .i64 p0, .int .i64 p1, .int .i64 p2, .int .i64 p3, .int .i64 p4, .int .i64 p5, .int .i64 p6, .int .i64 p7]) (.agg #[.int .i64 a0, .int .i64 a1, .int .i64 b0, .int .i64 b1, .int .i64 c0, .int .i64 c1, .int .i64 d0', .int .i64 d1'])).run Tryz.prog w = .ok (.bool false) w := fun w => by
                      have h := cel_ne (⟨p0, p1, p2, p3, p4, p5, p6, p7⟩ : Cel) (⟨a0, a1, b0, b1, c0, c1, d0', d1'⟩ : Cel) w
                      rw [decide_eq_true hyx] at h
                      exact h
                    have hd := HE.out.1
                    rw [if_pos ⟨hne0, hyl.trans hyx⟩] at hd
                    have HD2 := Lib.hid hd
                    obtain ⟨ud, hud⟩ : ∃ u : World, u = { u7 with drawn := u7.drawn + 1 } := ⟨_, rfl⟩
                    have bud : Below u7.heap.size u7 ud := by rw [hud]; exact (Below.refl _ u7).drew
                    have su := H7.out.1.keepB bud
                    have nu := su.f.num
                    have du := (bud.cell (p := ⟨db, 0, none⟩) z7).trans d7
                    have qu := (bud.cell (p := ⟨hb, 3, none⟩) zh7).trans q7
                    have zu := Nat.lt_of_lt_of_le z7 bud.size
                    have zhu := Nat.lt_of_lt_of_le zh7 bud.size
                    have zxu := Nat.lt_of_lt_of_le zx7 bud.size
                    have zggu := Nat.lt_of_lt_of_le zgg bud.size
                    have xu0 := (bud.cell (p := ⟨xb, 0, none⟩) zx7).trans x70
                    have xu1 := (bud.cell (p := ⟨xb, 1, none⟩) zx7).trans x71
                    have xu2 := (bud.cell (p := ⟨xb, 2, none⟩) zx7).trans x72
                    have xu3 := (bud.cell (p := ⟨xb, 3, none⟩) zx7).trans x73
                    have xu4 := (bud.cell (p := ⟨xb, 4, none⟩) zx7).trans x74
                    have xu5 := (bud.cell (p := ⟨xb, 5, none⟩) zx7).trans x75
                    have xu6 := (bud.cell (p := ⟨xb, 6, none⟩) zx7).trans x76
                    have xu7 := (bud.cell (p := ⟨xb, 7, none⟩) zx7).trans x77
                    have yu0 := (bud.cell (p := ⟨g, jp * 8, none⟩) zgg).trans y0
                    have yu1 := (bud.cell (p := ⟨g, jp * 8 + 1, none⟩) zgg).trans y1
                    have yu2 := (bud.cell (p := ⟨g, jp * 8 + 2, none⟩) zgg).trans y2
                    have yu3 := (bud.cell (p := ⟨g, jp * 8 + 3, none⟩) zgg).trans y3
                    have yu4 := (bud.cell (p := ⟨g, jp * 8 + 4, none⟩) zgg).trans y4
                    have yu5 := (bud.cell (p := ⟨g, jp * 8 + 5, none⟩) zgg).trans y5
                    have yu6 := (bud.cell (p := ⟨g, jp * 8 + 6, none⟩) zgg).trans y6
                    have yu7 := (bud.cell (p := ⟨g, jp * 8 + 7, none⟩) zgg).trans y7
                    clear hd hol hyl hne0 hyx
                    refine wp_region_still_tail 17 (by kernel_rfl) (by kernel_rfl) ?_
                    simp only [List.take_succ_cons, List.take_zero, List.drop_succ_cons, List.drop_zero]
                    rw [← hud]
                    have HS := Lib.hid su
                    clear hud bud su d7 q7 e7 x70 x71 x72 x73 x74 x75 x76 x77 y0 y1 y2 y3 y4 y5 y6 y7
                    repeat still_step
                    refine wpStill_nil ?_
                    go_wp2_with (go_at_call 118; refine (want_no fb _ 11 ud nu).mono ?_; unfold FailE; rintro e w9 ⟨rfl, rfl⟩)
                    exact ⟨rfl, dc_fail (ln := i + 1) (e := 11) (by rw [HD2.out]) (by decide) HS.out.k⟩
                  · have hE : ∀ w, (binOp .neq 73 (.agg #[.int .i64 p0, .int .i64 p1, .int .i64 p2, .int .i64 p3, .int .i64 p4, .int .i64 p5, .int .i64 p6, .int .i64 p7]) (.agg #[.int .i64 a0, .int .i64 a1, .int .i64 b0, .int .i64 b1, .int .i64 c0, .int .i64 c1, .int .i64 d0', .int .i64 d1'])).run Tryz.prog w = .ok (.bool true) w := fun w => by
                      have h := cel_ne (⟨p0, p1, p2, p3, p4, p5, p6, p7⟩ : Cel) (⟨a0, a1, b0, b1, c0, c1, d0', d1'⟩ : Cel) w
                      rw [decide_eq_false hyx] at h
                      exact h
                    have HY := Lib.hid (fun h => hyx (hyl.symm.trans h) : ¬ out.getLast?.getD default = (⟨a0, a1, b0, b1, c0, c1, d0', d1'⟩ : Cel))
                    clear hol hyl hne0 hyx
                    go_quiet ((go_at_call 118; exact Calls.quiet_of_same (want_yes _ 11 _)))
                    go_wp2_with fail
                    go_meet
                    exact ⟨fun h => HY.out h.2, nq, rfl⟩
              case rest =>
              obtain ⟨hne, nq, rfl⟩ := hcut
              obtain ⟨u8, hu8⟩ : ∃ u, u = u7.drewN nq := ⟨_, rfl⟩
              apply_assumption
              have b78 : Below u7.heap.size u7 u8 := by rw [hu8]; exact below_drewN (Below.refl _ _) _
              have s8 := H7.out.1.keepB b78
              have x8 := (b78.block xb zx7).trans H7.out.2
              have e8 := (b78.cell (p := ⟨g4, 0, none⟩) zg7).trans e7
              have zg8 := Nat.lt_of_lt_of_le zg7 b78.size
              have hd := HE.out.1
              rw [if_neg hne] at hd
              have HR8 := Lib.hid (And.intro s8 (And.intro x8 hd))
              rw [← hu8]
              clear hu8 b78 s8 x8 hd hne d7 e7 q7 z7 zg7 zh7 n7 zx7 x70 x71 x72 x73 x74 x75 x76 x77
              go_wp2_with fail
              go_loopg [7, 105] v0 (fun gi p q wx => ∃ k pp : Nat, gi + k = v0 ∧ pp = j + k ∧ p = .int .i64 pp ∧ q = .int .i64 k ∧ DcS w0 W L hb r4 r5 fb db g a b c n (i + 1) (out ++ List.replicate k (⟨a0, a1, b0, b1, c0, c1, d0', d1'⟩ : Cel)) wx ∧ wx.heap[xb]? = some (.cells #[.int .i64 a0, .int .i64 a1, .int .i64 b0, .int .i64 b1, .int .i64 c0, .int .i64 c1, .int .i64 d0', .int .i64 d1'] 73 (0, 0)))
              case atStart => exact ⟨0, j, by omega, by omega, rfl, rfl, by simpa using HR8.out.1, HR8.out.2.1⟩
              case round =>
                obtain ⟨k, pp, hgi, hpp, rfl, rfl, S, hx9⟩ := hrel
                by_cases hkv : k < v0
                · have hpn : pp < n := by have := HRR.out; have := HE.out.2; omega
                  have q9 := (cell_of_heap (S.o.heap 0 rfl) 3).trans rfl
                  have zh9 := heap_lt (S.o.heap 0 rfl)
                  have zx9 := heap_lt hx9
                  have hg := S.o.heap 5 rfl
                  have zg9 := heap_lt hg
                  have hol : (out ++ List.replicate k (⟨a0, a1, b0, b1, c0, c1, d0', d1'⟩ : Cel)).length = pp := by rw [List.length_append, List.length_replicate, ← HJ.out, hpp]
                  have hle : pp < (out ++ List.replicate k (⟨a0, a1, b0, b1, c0, c1, d0', d1'⟩ : Cel) ++ List.replicate (n - (out ++ List.replicate k (⟨a0, a1, b0, b1, c0, c1, d0', d1'⟩ : Cel)).length) celW).length := by rw [List.length_append, hol, List.length_replicate]; omega
                  obtain ⟨k0, k1, k2, k3, k4, k5, k6, k7⟩ := cels_get hle
                  have x90 := (cell_of_heap hx9 0).trans rfl
                  have x91 := (cell_of_heap hx9 1).trans rfl
                  have x92 := (cell_of_heap hx9 2).trans rfl
                  have x93 := (cell_of_heap hx9 3).trans rfl
                  have x94 := (cell_of_heap hx9 4).trans rfl
                  have x95 := (cell_of_heap hx9 5).trans rfl
                  have x96 := (cell_of_heap hx9 6).trans rfl
                  have x97 := (cell_of_heap hx9 7).trans rfl
                  obtain ⟨o0, cc0⟩ : ∃ v, wr.cell? ⟨g, pp * 8, none⟩ = some v := ⟨_, (cell_of_heap hg (pp * 8)).trans (List.getElem?_toArray.trans k0)⟩
                  have ff0 := frozen_of_heap hg (pp * 8)
                  obtain ⟨o1, cc1⟩ : ∃ v, wr.cell? ⟨g, pp * 8 + 1, none⟩ = some v := ⟨_, (cell_of_heap hg (pp * 8 + 1)).trans (List.getElem?_toArray.trans k1)⟩
                  have ff1 := frozen_of_heap hg (pp * 8 + 1)
                  obtain ⟨o2, cc2⟩ : ∃ v, wr.cell? ⟨g, pp * 8 + 2, none⟩ = some v := ⟨_, (cell_of_heap hg (pp * 8 + 2)).trans (List.getElem?_toArray.trans k2)⟩
                  have ff2 := frozen_of_heap hg (pp * 8 + 2)
                  obtain ⟨o3, cc3⟩ : ∃ v, wr.cell? ⟨g, pp * 8 + 3, none⟩ = some v := ⟨_, (cell_of_heap hg (pp * 8 + 3)).trans (List.getElem?_toArray.trans k3)⟩
                  have ff3 := frozen_of_heap hg (pp * 8 + 3)
                  obtain ⟨o4, cc4⟩ : ∃ v, wr.cell? ⟨g, pp * 8 + 4, none⟩ = some v := ⟨_, (cell_of_heap hg (pp * 8 + 4)).trans (List.getElem?_toArray.trans k4)⟩
                  have ff4 := frozen_of_heap hg (pp * 8 + 4)
                  obtain ⟨o5, cc5⟩ : ∃ v, wr.cell? ⟨g, pp * 8 + 5, none⟩ = some v := ⟨_, (cell_of_heap hg (pp * 8 + 5)).trans (List.getElem?_toArray.trans k5)⟩
                  have ff5 := frozen_of_heap hg (pp * 8 + 5)
                  obtain ⟨o6, cc6⟩ : ∃ v, wr.cell? ⟨g, pp * 8 + 6, none⟩ = some v := ⟨_, (cell_of_heap hg (pp * 8 + 6)).trans (List.getElem?_toArray.trans k6)⟩
                  have ff6 := frozen_of_heap hg (pp * 8 + 6)
                  obtain ⟨o7, cc7⟩ : ∃ v, wr.cell? ⟨g, pp * 8 + 7, none⟩ = some v := ⟨_, (cell_of_heap hg (pp * 8 + 7)).trans (List.getElem?_toArray.trans k7)⟩
                  have ff7 := frozen_of_heap hg (pp * 8 + 7)
                  have pl1 : (0 : Int) ≤ (pp : Int) := by omega
                  have pl2 : (pp : Int) < (n : Int) := by omega
                  have pl3 : pp ≤ 1024 := by omega
                  have pk3 : v0 ≤ 1024 := by have := HRR.out; have := HE.out.2; omega
                  have hxg9 : xb ∉ [g] := by simpa using H5.out.2.2
                  have HS9 := Lib.hid (And.intro S (And.intro hx9 (And.intro hg (And.intro hol (And.intro hpp (And.intro hle hxg9))))))
                  clear S hx9 hg hol hpp hle k0 k1 k2 k3 k4 k5 k6 k7 hxg9
                  go_upto_region 15 with fail
                  go_region
                  go_wp2_with fail
                  go_roundg (v0 - (k + 1))
                  case measure => omega
                  case rel =>
                    obtain ⟨S, hx9, hg, hol, hpp, hle, hxg9⟩ := HS9.out
                    obtain ⟨W9, hW9⟩ : ∃ u, u = ((((((((wr.setCell ⟨g, pp * 8, none⟩ (.int .i64 a0)).setCell ⟨g, pp * 8 + 1, none⟩ (.int .i64 a1)).setCell ⟨g, pp * 8 + 2, none⟩ (.int .i64 b0)).setCell ⟨g, pp * 8 + 3, none⟩ (.int .i64 b1)).setCell ⟨g, pp * 8 + 4, none⟩ (.int .i64 c0)).setCell ⟨g, pp * 8 + 5, none⟩ (.int .i64 c1)).setCell ⟨g, pp * 8 + 6, none⟩ (.int .i64 d0')).setCell ⟨g, pp * 8 + 7, none⟩ (.int .i64 d1')) := ⟨_, rfl⟩
                    have kk : Keep [g] wr W9 := by rw [hW9]; exact keepX8 wr g (pp * 8) _ _ _ _ _ _ _ _
                    have hh := celX_store8 hg (i := pp) hle (⟨a0, a1, b0, b1, c0, c1, d0', d1'⟩ : Cel)
                    rw [← hW9] at hh
                    rw [← hW9]
                    have kd := kk.drew
                    have hd9 := hh
                    rw [show W9.heap = W9.drew.heap from rfl] at hd9
                    have hb9 := (kd.block xb (heap_lt hx9) hxg9).trans hx9
                    obtain ⟨Wd, hWd⟩ : ∃ u, u = W9.drew := ⟨_, rfl⟩
                    rw [← hWd] at kd hd9 hb9
                    rw [← hWd]
                    clear hWd kk hh hW9
                    refine ⟨k + 1, pp + 1, by omega, by omega, by go_num, by go_num, ?_, hb9⟩
                    rw [List.replicate_succ', ← List.append_assoc]
                    exact S.put (by rw [hol]; exact hpn) (⟨a0, a1, b0, b1, c0, c1, d0', d1'⟩ : Cel) kd (by rw [hol] at hd9 ⊢; exact hd9)
                · have hkk : k = v0 := by omega
                  have HS9 := Lib.hid (And.intro S (And.intro hkk hpp))
                  clear S hx9 hkk hpp
                  go_wp2_with fail
                  go_roundg (n - (j + v0))
                  case measure => have := HRR.out; have := HE.out.2; omega
                  case rel =>
                    obtain ⟨S, hkk, hpp⟩ := HS9.out
                    obtain ⟨f', hf'⟩ : ∃ f', f = f' + 1 := ⟨f - 1, by omega⟩
                    have hd := HR8.out.2.2
                    rw [hf'] at hd
                    rw [hkk] at S hpp
                    have hl : (out ++ List.replicate v0 (⟨a0, a1, b0, b1, c0, c1, d0', d1'⟩ : Cel)).length = j + v0 := by rw [List.length_append, List.length_replicate, ← HJ.out]
                    have hv1 := HE.out.2
                    have hrj := HRR.out
                    exact ⟨out ++ List.replicate v0 (⟨a0, a1, b0, b1, c0, c1, d0', d1'⟩ : Cel), i + 1, f', by rw [hl]; omega, by rw [hl, hpp], by rw [hl]; omega, by rw [hl]; omega, hd, S⟩
            · have hd := HD.out.2
              rw [if_pos (by have := HJ.out; omega)] at hd
              have HE := Lib.hid hd
              clear hd
              obtain ⟨ud, hud⟩ : ∃ u : World, u = { u6 with drawn := u6.drawn + 1 } := ⟨_, rfl⟩
              have bud : Below u6.heap.size u6 ud := by rw [hud]; exact (Below.refl _ u6).drew
              have su := H6.out.1.keepB bud
              have du := (bud.cell (p := ⟨db, 0, none⟩) z6).trans d6
              have eu := (bud.cell (p := ⟨g4, 0, none⟩) zg6).trans e6
              have qu := (bud.cell (p := ⟨hb, 3, none⟩) zh6).trans q6
              have nu := su.f.num
              have zu := Nat.lt_of_lt_of_le z6 bud.size
              have zgu := Nat.lt_of_lt_of_le zg6 bud.size
              have zhu := Nat.lt_of_lt_of_le zh6 bud.size
              by_cases hv : v0 = 0
              · have eu' : ud.cell? ⟨g4, 0, none⟩ = some (.int .i64 0) := by rw [eu, hv]; rfl
                clear hm hv hr hrr hwr eu
                have HS := Lib.hid su
                refine wp_region_held_drew (S := fun w' => (db < w'.heap.size ∧ w'.cell? ⟨db, 0, none⟩ = some (.pointer (some ⟨fb, 0, none⟩))) ∧ g4 < w'.heap.size ∧ w'.cell? ⟨g4, 0, none⟩ = some (.int .i64 0)) (by kernel_rfl) (by rw [show World.drew u6 = ud from hud.symm]; exact ⟨⟨zu, du⟩, zgu, eu'⟩) (fun hHeld => ?_)
                rw [show World.drew u6 = ud from hud.symm] at hHeld ⊢; clear hud bud su d6 e6 q6
                refine wpAnyH_take (i := 0) (oi := _) (v := ?_) rfl (by kernel_rfl) (by kernel_rfl) (by kernel_rfl) (fun _ _ _ h => h) (Or.inl ⟨by rfl, ?_⟩) (by assumption) ?_
                rotate_left
                · (intro w hSw; (try dsimp only at hSw); go_simp; try with_reducible rfl)
                try simp only [Act.put, List.setIfInBounds_toArray, List.set_cons_zero, List.set_cons_succ]
                refine wpAnyH_take (i := 1) (oi := _) (v := ?_) rfl (by kernel_rfl) (by kernel_rfl) (by kernel_rfl) (fun _ _ _ h => h) (Or.inl ⟨by rfl, ?_⟩) (by assumption) ?_
                rotate_left
                · (intro w hSw; (try dsimp only at hSw); go_simp; try with_reducible rfl)
                try simp only [Act.put, List.setIfInBounds_toArray, List.set_cons_zero, List.set_cons_succ]
                refine wpAnyH_take (i := 2) (oi := _) (v := ?_) rfl (by kernel_rfl) (by kernel_rfl) (by kernel_rfl) (fun _ _ _ h => h) (Or.inl ⟨by rfl, ?_⟩) (by assumption) ?_
                rotate_left
                · (intro w hSw; (try dsimp only at hSw); go_simp; try with_reducible rfl)
                try simp only [Act.put, List.setIfInBounds_toArray, List.set_cons_zero, List.set_cons_succ]
                refine wpAnyH_take (i := 3) (oi := _) (v := ?_) rfl (by kernel_rfl) (by kernel_rfl) (by kernel_rfl) (fun _ _ _ h => h) (Or.inl ⟨by rfl, ?_⟩) (by assumption) ?_
                rotate_left
                · (intro w hSw; (try dsimp only at hSw); go_simp; try with_reducible rfl)
                try simp only [Act.put, List.setIfInBounds_toArray, List.set_cons_zero, List.set_cons_succ]
                refine wpAnyH_take (i := 4) (oi := _) (v := ?_) rfl (by kernel_rfl) (by kernel_rfl) (by kernel_rfl) (fun _ _ _ h => h) (Or.inl ⟨by rfl, ?_⟩) (by assumption) ?_
                rotate_left
                · (intro w hSw; (try dsimp only at hSw); go_simp; try with_reducible rfl)
                try simp only [Act.put, List.setIfInBounds_toArray, List.set_cons_zero, List.set_cons_succ]
                refine wpAnyH_take (i := 5) (oi := _) (v := ?_) rfl (by kernel_rfl) (by kernel_rfl) (by kernel_rfl) (fun _ _ _ h => h) (Or.inl ⟨by rfl, ?_⟩) (by assumption) ?_
                rotate_left
                · (intro w hSw; (try dsimp only at hSw); go_simp; try with_reducible rfl)
                try simp only [Act.put, List.setIfInBounds_toArray, List.set_cons_zero, List.set_cons_succ]
                refine wpAnyH_take (i := 6) (oi := _) (v := ?_) rfl (by kernel_rfl) (by kernel_rfl) (by kernel_rfl) (fun _ _ _ h => h) (Or.inl ⟨by rfl, ?_⟩) (by assumption) ?_
                rotate_left
                · (intro w hSw; (try dsimp only at hSw); go_simp; try with_reducible rfl)
                try simp only [Act.put, List.setIfInBounds_toArray, List.set_cons_zero, List.set_cons_succ]
                refine wpAnyH_take (i := 7) (oi := _) (v := undef) rfl (by kernel_rfl) (by kernel_rfl) (by kernel_rfl) (fun _ _ _ h => h) (Or.inr ⟨by kernel_rfl, rfl⟩) (by assumption) ?_
                try simp only [Act.put, List.setIfInBounds_toArray, List.set_cons_zero, List.set_cons_succ]
                refine wpAnyH_take (i := 8) (oi := _) (v := undef) rfl (by kernel_rfl) (by kernel_rfl) (by kernel_rfl) (fun _ _ _ h => h) (Or.inr ⟨by kernel_rfl, rfl⟩) (by assumption) ?_
                try simp only [Act.put, List.setIfInBounds_toArray, List.set_cons_zero, List.set_cons_succ]
                refine wpAnyH_take (i := 9) (oi := _) (v := undef) rfl (by kernel_rfl) (by kernel_rfl) (by kernel_rfl) (fun _ _ _ h => h) (Or.inr ⟨by kernel_rfl, rfl⟩) (by assumption) ?_
                try simp only [Act.put, List.setIfInBounds_toArray, List.set_cons_zero, List.set_cons_succ]
                refine wpAnyH_take (i := 10) (oi := _) (v := undef) rfl (by kernel_rfl) (by kernel_rfl) (by kernel_rfl) (fun _ _ _ h => h) (Or.inr ⟨by kernel_rfl, rfl⟩) (by assumption) ?_
                try simp only [Act.put, List.setIfInBounds_toArray, List.set_cons_zero, List.set_cons_succ]
                refine wpAnyH_take (i := 11) (oi := _) (v := undef) rfl (by kernel_rfl) (by kernel_rfl) (by kernel_rfl) (fun _ _ _ h => h) (Or.inr ⟨by kernel_rfl, rfl⟩) (by assumption) ?_
                try simp only [Act.put, List.setIfInBounds_toArray, List.set_cons_zero, List.set_cons_succ]
                refine wpAnyH_take (i := 12) (oi := _) (v := undef) rfl (by kernel_rfl) (by kernel_rfl) (by kernel_rfl) (fun _ _ _ h => h) (Or.inr ⟨by kernel_rfl, rfl⟩) (by assumption) ?_
                try simp only [Act.put, List.setIfInBounds_toArray, List.set_cons_zero, List.set_cons_succ]
                refine wpAnyH_take (i := 13) (oi := _) (v := undef) rfl (by kernel_rfl) (by kernel_rfl) (by kernel_rfl) (fun _ _ _ h => h) (Or.inr ⟨by kernel_rfl, rfl⟩) (by assumption) ?_
                try simp only [Act.put, List.setIfInBounds_toArray, List.set_cons_zero, List.set_cons_succ]
                refine wpAnyH_take (i := 14) (oi := _) (v := undef) rfl (by kernel_rfl) (by kernel_rfl) (by kernel_rfl) (fun _ _ _ h => h) (Or.inr ⟨by kernel_rfl, rfl⟩) (by assumption) ?_
                try simp only [Act.put, List.setIfInBounds_toArray, List.set_cons_zero, List.set_cons_succ]
                refine wpAnyH_take (i := 15) (oi := _) (v := undef) rfl (by kernel_rfl) (by kernel_rfl) (by kernel_rfl) (fun _ _ _ h => h) (Or.inr ⟨by kernel_rfl, rfl⟩) (by assumption) ?_
                try simp only [Act.put, List.setIfInBounds_toArray, List.set_cons_zero, List.set_cons_succ]
                refine wpAnyH_take (i := 16) (oi := _) (v := undef) rfl (by kernel_rfl) (by kernel_rfl) (by kernel_rfl) (fun _ _ _ h => h) (Or.inr ⟨by kernel_rfl, rfl⟩) (by assumption) ?_
                try simp only [Act.put, List.setIfInBounds_toArray, List.set_cons_zero, List.set_cons_succ]
                refine wpAnyH_take (i := 17) (oi := _) (v := undef) rfl (by kernel_rfl) (by kernel_rfl) (by kernel_rfl) (fun _ _ _ h => h) (Or.inr ⟨by kernel_rfl, rfl⟩) (by assumption) ?_
                try simp only [Act.put, List.setIfInBounds_toArray, List.set_cons_zero, List.set_cons_succ]
                refine wpAnyH_take (i := 18) (oi := _) (v := undef) rfl (by kernel_rfl) (by kernel_rfl) (by kernel_rfl) (fun _ _ _ h => h) (Or.inr ⟨by kernel_rfl, rfl⟩) (by assumption) ?_
                try simp only [Act.put, List.setIfInBounds_toArray, List.set_cons_zero, List.set_cons_succ]
                refine wpAnyH_take (i := 19) (oi := _) (v := ?_) rfl (by kernel_rfl) (by kernel_rfl) (by kernel_rfl) (fun _ _ _ h => h) (Or.inl ⟨by rfl, ?_⟩) (by assumption) ?_
                rotate_left
                · (intro w hSw; (try dsimp only at hSw); go_simp; try with_reducible rfl)
                try simp only [Act.put, List.setIfInBounds_toArray, List.set_cons_zero, List.set_cons_succ]
                refine wpAnyH_ready (rs := [20]) (by kernel_rfl) (by simp) ?_
                refine AllReadyH.cons (o := _) rfl (fun K hK => ?_) AllReadyH.nil
                go_simp
                go_wp2_with (go_at_call 118; refine (want_no fb _ 2 ud nu).mono ?_; unfold FailE; rintro e w9 ⟨rfl, rfl⟩)
                exact ⟨rfl, dc_fail (ln := i + 1) (e := 2) (by rw [HE.out]) (by decide) HS.out.k⟩
              · have g1 : decide ((0 : Int) < (v0 : Int)) = true := decide_eq_true (by omega)
                have g1' : decide (0 < v0) = true := decide_eq_true (by omega)
                have g2 : decide ((v0 : Int) ≤ (r : Int)) = false := decide_eq_false (by omega)
                have g2' : decide (v0 ≤ r) = false := decide_eq_false (by omega)
                have hm1 : 0 < v0 := by omega
                have hm2 : ¬ v0 ≤ r := by omega
                clear hm hv hr
                refine wp_region_still_tail 20 (by kernel_rfl) (by kernel_rfl) ?_
                simp only [List.take_succ_cons, List.take_zero, List.drop_succ_cons, List.drop_zero]
                rw [← hud]
                have HS := Lib.hid su
                clear hud bud su d6 e6 q6
                repeat still_step
                refine wpStill_nil ?_
                go_wp2_with (go_at_call 118; refine (want_no fb _ 2 ud nu).mono ?_; unfold FailE; rintro e w9 ⟨rfl, rfl⟩)
                exact ⟨rfl, dc_fail (ln := i + 1) (e := 2) (by rw [HE.out]) (by decide) HS.out.k⟩
          · have kc : ∀ u, Calls Tryz.prog 130 #[.agg #[.int .i64 a0, .int .i64 a1, .int .i64 b0, .int .i64 b1, .int .i64 c0, .int .i64 c1, .int .i64 d0', .int .i64 d1']] u fun e w' => e = .returned (.int .i64 20) ∧ Below u.heap.size u w' := fun u => by
              have h := checkCell_any (⟨a0, a1, b0, b1, c0, c1, d0', d1'⟩ : Cel) u
              rw [show celE (⟨a0, a1, b0, b1, c0, c1, d0', d1'⟩ : Cel) = 20 from by unfold celE; rw [if_neg hok]] at h
              exact h
            have hd := H.out.2.1
            rw [if_pos (by simpa using hok)] at hd
            have HD := Lib.hid (And.intro kc hd)
            clear kc hd hok
            go_wp2_with (first
              | (go_at_call 130; refine (HD.out.1 u5).mono ?_; rintro e u6 ⟨rfl, b6⟩; have d6 := (b6.cell (p := ⟨db, 0, none⟩) z5).trans d5; have z6 := Nat.lt_of_lt_of_le z5 b6.size; have n6 := (H5.out.1.keepB b6).f.num; have H6 := Lib.hid (H5.out.1.keepB b6); clear b6)
              | (go_at_call 118; refine (want_no fb _ 20 u6 n6).mono ?_; unfold FailE; rintro e w9 ⟨rfl, rfl⟩))
            exact ⟨rfl, dc_fail (ln := i + 1) (e := 20) (by rw [HD.out.2]) (by decide) H6.out.k⟩
      · have kn2 : Calls Tryz.prog 117 #[.pointer (some ⟨fb, 0, none⟩)] V fun e w' => e = FailE (i + 1 : Nat) (lineS L i) ∧ Keep [fb] V w' := kn.mono fun e w' h => by
          obtain ⟨k1, k2⟩ := h
          rw [if_neg h9] at k2
          exact ⟨k2, k1⟩
        rw [if_pos h9] at hd
        obtain ⟨e1, he1⟩ : ∃ e, e = lineS L i := ⟨_, rfl⟩
        rw [← he1] at hd kn2 h9
        have kW := S1.k
        have H := Lib.hid (And.intro kn2 (And.intro hd (And.intro h9 kW)))
        clear kn kn2 hd he1 h9 S1 kW
        go_upto_region 7 with fail
        refine wp_region_held_drew (S := fun w' => db < w'.heap.size ∧ w'.cell? ⟨db, 0, none⟩ = some (.pointer (some ⟨fb, 0, none⟩))) (by kernel_rfl) (by rw [← hV]; exact ⟨z1, d1⟩) (fun hHeld => ?_)
        rw [← hV] at hHeld ⊢; clear hV
        refine wpAnyH_take (i := 0) (oi := _) (v := ?_) rfl (by kernel_rfl) (by kernel_rfl) (by kernel_rfl) (fun _ _ _ h => h) (Or.inl ⟨by rfl, ?_⟩) (by assumption) ?_
        rotate_left
        · (intro w hSw; (try dsimp only at hSw); go_simp; try with_reducible rfl)
        try simp only [Act.put, List.setIfInBounds_toArray, List.set_cons_zero, List.set_cons_succ]
        refine wpAnyH_take (i := 1) (oi := _) (v := ?_) rfl (by kernel_rfl) (by kernel_rfl) (by kernel_rfl) (fun _ _ _ h => h) (Or.inl ⟨by rfl, ?_⟩) (by assumption) ?_
        rotate_left
        · (intro w hSw; (try dsimp only at hSw); go_simp; try with_reducible rfl)
        try simp only [Act.put, List.setIfInBounds_toArray, List.set_cons_zero, List.set_cons_succ]
        refine wpAnyH_take (i := 2) (oi := _) (v := ?_) rfl (by kernel_rfl) (by kernel_rfl) (by kernel_rfl) (fun _ _ _ h => h) (Or.inl ⟨by rfl, ?_⟩) (by assumption) ?_
        rotate_left
        · (intro w hSw; (try dsimp only at hSw); go_simp; try with_reducible rfl)
        try simp only [Act.put, List.setIfInBounds_toArray, List.set_cons_zero, List.set_cons_succ]
        refine wpAnyH_ready (rs := [3]) (by kernel_rfl) (by simp) ?_
        refine AllReadyH.cons (o := _) rfl (fun K hK => ?_) AllReadyH.nil
        go_simp
        go_wp2_with (go_at_call 117; refine H.out.1.mono ?_; unfold FailE; rintro e w2 ⟨rfl, k2⟩; have HN := Lib.hid k2; clear k2)
        exact ⟨rfl, dc_fail (ln := i + 1) (e := e1) (by rw [H.out.2.1]) H.out.2.2.1 (H.out.2.2.2.trans HN.out (fun x hx => .inl (by simp at hx; simp [hx])))⟩
    · have hjn : n = j := by omega
      have HQ := Lib.hid (And.intro S (And.intro hd (And.intro hj hjn)))
      clear S hd hj hjn
      go_upto_region 18 with fail
      exact dueC_t18 L hb r4 r5 fb db g n i f a b c out w0 W wr HQ.out.1 (by rw [HQ.out.2.2.2]; exact HQ.out.2.2.1.symm) (by omega) HQ.out.2.1 (fun _ _ _ h => h)
end Go.Proofs.YtaokegobilphnaaGreatDoor
