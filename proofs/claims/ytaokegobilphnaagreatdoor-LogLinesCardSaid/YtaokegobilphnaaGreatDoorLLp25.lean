/- polynyalaw13.entries (printed by tools/lgx.py) -/
import Derived.Test.YtaokegobilphnaaGreatDoorLLp13
import Derived.Test.YtaokegobilphnaaGreatDoorLLp24
import Derived.Test.YtaokegobilphnaaGreatDoorLLp2
import Derived.Deep.RegionHeld3
import Derived.BigRegion
import Derived.BigQuiet
import Derived.Test.YtaokegobilphnaaGreatDoorLLp8
import Derived.Test.YtaokegobilphnaaGreatDoorLLp15
import Derived.Test.YtaokegobilphnaaGreatDoorLLp9
set_option linter.unusedVariables false
set_option linter.unusedSimpArgs false
namespace Go.Proofs.YtaokegobilphnaaGreatDoor
open Go Go.RowKit Go.Shelf Go.Proofs Sp Lg
set_option linter.unusedVariables false
set_option linter.unusedSimpArgs false

/-- entries that are made: their list, and what they hold -/
def EsO (w0 : World) (A : Option Addr) (c : Nat) (es : List EnM) (qo : List Nat) (wx : World) : Prop :=
  Own w0.heap.size w0 [.own 93 5 A es.length c (entsV es) qo, .gen (arsB es) (fun w => EnsOk w es)] wx
set_option maxRecDepth 100000 in
set_option maxHeartbeats 4000000 in
theorem entries_any (L : List EnM) (A : Option Addr) (c : Nat) (w : World) (hr : Rd w 5 A L.length (entsV L)) (hE : EnsOk w L) (hl : L.length ≤ 1000000) (ha : ∀ e ∈ L, e.x.args.length ≤ 1000000) :
    Calls Tryz.prog 10 #[.slice A L.length c] w fun e w' => ∃ (es : List EnM) (A' : Option Addr) (c' : Nat) (qo : List Nat), e = .returned (.slice A' es.length c') ∧ exs es = exs L ∧ EsO w A' c' es qo w' := by
  obtain ⟨iE, hE0, hE1, hE2, hE3⟩ := info_parts infoLgEnt
  obtain ⟨n, hn⟩ : ∃ n, n = L.length := ⟨_, rfl⟩
  rw [← hn] at hr hl
  rw [← hn]
  have H := Lib.hid (And.intro hr (And.intro hE (And.intro ha hn)))
  clear hr hE ha hn
  go_enter Tryz.func10, Tryz.ntmps10
  go_wp2_with fail
  go_loopg [3, 4, 5] n (fun g s i x wr => ∃ (es : List EnM) (A' : Option Addr) (c' : Nat) (qo : List Nat), g + es.length = n ∧ i = .int .i64 es.length ∧ s = .slice A' es.length c' ∧ exs es = (exs L).take es.length ∧ EsO w A' c' es qo wr)
  case atStart => exact ⟨[], none, 0, [], by simp, rfl, rfl, by simp [exs], by
    refine ⟨Below.refl _ _, Nat.le_refl _, fun a i hi => ?_, fun a b i j hi hj hab x hx hy => ?_⟩
    · match a, hi with
      | 0, hi => cases hi; exact ⟨OwnS.nil _ _ _, fun x hx => by simp [It.fp] at hx⟩
      | 1, hi => cases hi; exact ⟨ens_gen (D := w.heap.size) (fun e he => by cases he), fun x hx => by simp [It.fp, arsB] at hx⟩
      | a + 2, hi => simp at hi
    · match a, hi with
      | 0, hi => cases hi; simp [It.fp] at hx
      | 1, hi => cases hi; simp [It.fp, arsB] at hx
      | a + 2, hi => simp at hi⟩
  case round =>
    obtain ⟨es, A', c', qo, hg, rfl, rfl, hex, hO⟩ := hrel
    obtain ⟨k, hk⟩ : ∃ k, k = es.length := ⟨_, rfl⟩
    rw [← hk] at hg hex
    rw [← hk]
    have bb := hO.bel
    by_cases hlt : k < n
    · have hkL : k < L.length := by have := H.out.2.2.2; omega
      obtain ⟨b, off, rfl, hb, hc⟩ := H.out.1.2 (by omega)
      have zb := Nat.lt_of_lt_of_le hb bb.size
      obtain ⟨E, hE⟩ : ∃ E, E = L[k] := ⟨_, rfl⟩
      have ct : ∀ j u, j < 5 → (entL E)[j]? = some u → wr.cell? ⟨b, off + k * 5 + j, none⟩ = some u := fun j u hj hu => by
        rw [Nat.add_assoc]
        exact (bb.cell (p := ⟨b, off + (k * 5 + j), none⟩) hb).trans (hc _ _ (by unfold entsV; rw [flatE_get hkL hj, ← hE]; exact hu))
      obtain ⟨m, hm⟩ : ∃ m, m = E.x.minute := ⟨_, rfl⟩
      obtain ⟨p, hp⟩ : ∃ m, m = E.x.ship := ⟨_, rfl⟩
      obtain ⟨V, hV⟩ : ∃ m, m = bs E.x.verb := ⟨_, rfl⟩
      obtain ⟨N, hN⟩ : ∃ m, m = bs E.x.note := ⟨_, rfl⟩
      obtain ⟨a, ha⟩ : ∃ m, m = E.x.args.length := ⟨_, rfl⟩
      obtain ⟨AA, hAA⟩ : ∃ m, m = E.A := ⟨_, rfl⟩
      obtain ⟨cc, hcc⟩ : ∃ m, m = E.c := ⟨_, rfl⟩
      have c0 : wr.cell? ⟨b, off + k * 5, none⟩ = some (.int .i64 m) := ct 0 _ (by decide) (by rw [hm]; rfl)
      have c1 : wr.cell? ⟨b, off + k * 5 + 1, none⟩ = some (.int .i64 p) := ct 1 _ (by decide) (by rw [hp]; rfl)
      have c2 : wr.cell? ⟨b, off + k * 5 + 2, none⟩ = some (.string V) := ct 2 _ (by decide) (by rw [hV]; rfl)
      have c3 : wr.cell? ⟨b, off + k * 5 + 3, none⟩ = some (.slice AA a cc) := ct 3 _ (by decide) (by rw [ha, hAA, hcc]; rfl)
      have c4 : wr.cell? ⟨b, off + k * 5 + 4, none⟩ = some (.string N) := ct 4 _ (by decide) (by rw [hN]; rfl)
      have hmem : E ∈ L := by rw [hE]; exact List.getElem_mem _
      obtain ⟨X, hX⟩ : ∃ X, X = wr.alloc (.cells #[.int .i64 m, .int .i64 p, .string V, .slice AA a cc, .string N] 26) := ⟨_, rfl⟩
      obtain ⟨xb, hxb⟩ : ∃ b, b = wr.heap.size := ⟨_, rfl⟩
      have bX : Below wr.heap.size wr X := by rw [hX]; exact (Below.refl _ _).alloc (Nat.le_refl _) _
      have gq : X.heap[xb]? = some (.cells #[.int .i64 m, .int .i64 p, .string V, .slice AA a cc, .string N] 26 (0, 0)) := by rw [hX, hxb]; exact heap_alloc_new _ _
      have BX := bb.trans (bX.mono bb.size)
      have hOX : EsO w A' c' es qo X := Own.below hO bX
      have kc : ∀ W, Below X.heap.size X W → Calls Tryz.prog 61 #[.slice AA a cc] W fun e w' => ∃ A1 c1 q, e = .returned (.slice A1 a c1) ∧ OwnA w' 3 A1 a c1 (ints E.x.args) q ∧ (∀ g ∈ q, W.heap.size ≤ g) ∧ Below W.heap.size W w' := fun W hW => by
        have he := (H.out.2.1 E hmem).below (BX.trans (hW.mono BX.size))
        rw [← hAA] at he
        have := copyIntsO_any AA cc E.x.args W he (by have := H.out.2.2.1 E hmem; omega)
        rw [← ha] at this
        exact this
      have hex2 : exs L = exs L ∧ (exs L).take (k + 1) = (exs L).take k ++ [E.x] := by
        refine ⟨rfl, ?_⟩
        have hke : k < (exs L).length := by simp [exs]; exact hkL
        rw [List.take_succ_eq_append_getElem hke]
        congr 2
        simp [exs, hE]
      have hen : ∀ A c, entL ⟨E.x, A, c⟩ = [.int .i64 m, .int .i64 p, .string V, .slice A a c, .string N] := fun A c => by unfold entL; rw [hm, hp, hV, hN, ha]
      have hxn : n ≤ 1000000 := hl
      have hxq : xb ∉ qo := fun hm => by have := Own.lt hO 0 rfl (x := xb) hm; omega
      have HXQ := Lib.hid hxq
      clear hxq
      obtain ⟨VX, hVX⟩ : ∃ v, v = X.drew := ⟨_, rfl⟩
      have bVX : Below X.heap.size X VX := by rw [hVX]; exact (Below.refl _ _).drew
      have HB := Lib.hid (And.intro BX (And.intro hOX (And.intro kc (And.intro gq (And.intro hex (And.intro hex2.2 (And.intro hk (And.intro ha (And.intro bVX hen)))))))))
      clear BX kc bb hex hex2 hO hOX hE hk ha bVX hen
      have hS : ∀ W, Below VX.heap.size VX W → (xb < W.heap.size ∧ W.cell? ⟨xb, 0, none⟩ = some (.int .i64 m) ∧ W.cell? ⟨xb, 1, none⟩ = some (.int .i64 p) ∧ W.cell? ⟨xb, 2, none⟩ = some (.string V) ∧ W.cell? ⟨xb, 3, none⟩ = some (.slice AA a cc) ∧ W.cell? ⟨xb, 4, none⟩ = some (.string N)) := fun W hW => by
        have h := (hW.block xb (Nat.lt_of_lt_of_le (heap_lt gq) HB.out.2.2.2.2.2.2.2.2.1.size)).trans ((HB.out.2.2.2.2.2.2.2.2.1.block xb (heap_lt gq)).trans gq)
        exact ⟨heap_lt h, (cell_of_heap h 0).trans rfl, (cell_of_heap h 1).trans rfl, (cell_of_heap h 2).trans rfl, (cell_of_heap h 3).trans rfl, (cell_of_heap h 4).trans rfl⟩
      have HSS := Lib.hid hS
      clear gq hS bX hm hp hV hN hAA hcc ct hc hmem
      go_upto_region 6 with fail
      rw [← hX, ← hxb]
      clear hX hxb c0 c1 c2 c3 c4
      refine wp_region_held_drew (S := fun w' => xb < w'.heap.size ∧ w'.cell? ⟨xb, 0, none⟩ = some (.int .i64 m) ∧ w'.cell? ⟨xb, 1, none⟩ = some (.int .i64 p) ∧ w'.cell? ⟨xb, 2, none⟩ = some (.string V) ∧ w'.cell? ⟨xb, 3, none⟩ = some (.slice AA a cc) ∧ w'.cell? ⟨xb, 4, none⟩ = some (.string N)) (by kernel_rfl) (by rw [← hVX]; exact HSS.out VX (Below.refl _ _)) (fun hHeld => ?_)
      rw [← hVX] at hHeld ⊢; clear hVX
      refine wpAnyH_take (i := 0) (oi := _) (v := ?_) rfl (by kernel_rfl) (by kernel_rfl) (by kernel_rfl) (fun _ _ _ h => h) (Or.inl ⟨by rfl, ?_⟩) (by assumption) ?_
      rotate_left
      · (intro w hSw; (try dsimp only at hSw); go_simp; try with_reducible rfl)
      try simp only [Act.put, List.setIfInBounds_toArray, List.set_cons_zero, List.set_cons_succ]
      refine wpAnyH_take (i := 1) (oi := _) (v := ?_) rfl (by kernel_rfl) (by kernel_rfl) (by kernel_rfl) (fun _ _ _ h => h) (Or.inl ⟨by rfl, ?_⟩) (by assumption) ?_
      rotate_left
      · (intro w hSw; (try dsimp only at hSw); go_simp; try with_reducible rfl)
      try simp only [Act.put, List.setIfInBounds_toArray, List.set_cons_zero, List.set_cons_succ]
      refine wpAnyH_take (i := 2) (oi := _) (v := ?_) rfl (by kernel_rfl) (by kernel_rfl) (by kernel_rfl) (fun _ _ _ h => h) (Or.inl ⟨by rfl, ?_⟩) (by assumption) ?_
      rotate_left
      · (intro w hSw; (try dsimp only at hSw); go_simp; try with_reducible rfl)
      try simp only [Act.put, List.setIfInBounds_toArray, List.set_cons_zero, List.set_cons_succ]
      refine wpAnyH_take (i := 3) (oi := _) (v := ?_) rfl (by kernel_rfl) (by kernel_rfl) (by kernel_rfl) (fun _ _ _ h => h) (Or.inl ⟨by rfl, ?_⟩) (by assumption) ?_
      rotate_left
      · (intro w hSw; (try dsimp only at hSw); go_simp; try with_reducible rfl)
      try simp only [Act.put, List.setIfInBounds_toArray, List.set_cons_zero, List.set_cons_succ]
      refine wpAnyH_take (i := 4) (oi := _) (v := ?_) rfl (by kernel_rfl) (by kernel_rfl) (by kernel_rfl) (fun _ _ _ h => h) (Or.inl ⟨by rfl, ?_⟩) (by assumption) ?_
      rotate_left
      · (intro w hSw; (try dsimp only at hSw); go_simp; try with_reducible rfl)
      try simp only [Act.put, List.setIfInBounds_toArray, List.set_cons_zero, List.set_cons_succ]
      refine wpAnyH_take (i := 5) (oi := _) (v := ?_) rfl (by kernel_rfl) (by kernel_rfl) (by kernel_rfl) (fun _ _ _ h => h) (Or.inl ⟨by rfl, ?_⟩) (by assumption) ?_
      rotate_left
      · (intro w hSw; (try dsimp only at hSw); go_simp; try with_reducible rfl)
      try simp only [Act.put, List.setIfInBounds_toArray, List.set_cons_zero, List.set_cons_succ]
      refine wpAnyH_take (i := 6) (oi := _) (v := ?_) rfl (by kernel_rfl) (by kernel_rfl) (by kernel_rfl) (fun _ _ _ h => h) (Or.inl ⟨by rfl, ?_⟩) (by assumption) ?_
      rotate_left
      · (intro w hSw; (try dsimp only at hSw); go_simp; try with_reducible rfl)
      try simp only [Act.put, List.setIfInBounds_toArray, List.set_cons_zero, List.set_cons_succ]
      refine wpAnyH_take (i := 7) (oi := _) (v := ?_) rfl (by kernel_rfl) (by kernel_rfl) (by kernel_rfl) (fun _ _ _ h => h) (Or.inl ⟨by rfl, ?_⟩) (by assumption) ?_
      rotate_left
      · (intro w hSw; (try dsimp only at hSw); go_simp; try with_reducible rfl)
      try simp only [Act.put, List.setIfInBounds_toArray, List.set_cons_zero, List.set_cons_succ]
      refine wpAnyH_take (i := 8) (oi := _) (v := ?_) rfl (by kernel_rfl) (by kernel_rfl) (by kernel_rfl) (fun _ _ _ h => h) (Or.inl ⟨by rfl, ?_⟩) (by assumption) ?_
      rotate_left
      · (intro w hSw; (try dsimp only at hSw); go_simp; try with_reducible rfl)
      try simp only [Act.put, List.setIfInBounds_toArray, List.set_cons_zero, List.set_cons_succ]
      refine wpAnyH_take (i := 10) (oi := _) (v := ?_) rfl (by kernel_rfl) (by kernel_rfl) (by kernel_rfl) (fun _ _ _ h => h) (Or.inl ⟨by rfl, ?_⟩) (by assumption) ?_
      rotate_left
      · (intro w hSw; (try dsimp only at hSw); go_simp; try with_reducible rfl)
      try simp only [Act.put, List.setIfInBounds_toArray, List.set_cons_zero, List.set_cons_succ]
      refine wpAnyH_take (i := 11) (oi := _) (v := ?_) rfl (by kernel_rfl) (by kernel_rfl) (by kernel_rfl) (fun _ _ _ h => h) (Or.inl ⟨by rfl, ?_⟩) (by assumption) ?_
      rotate_left
      · (intro w hSw; (try dsimp only at hSw); go_simp; try with_reducible rfl)
      try simp only [Act.put, List.setIfInBounds_toArray, List.set_cons_zero, List.set_cons_succ]
      refine wpAnyH_ready (rs := [9]) (by kernel_rfl) (by simp) ?_
      refine (AllReadyH.cons (o := _) rfl (fun K hK => ?_) AllReadyH.nil)
      go_simp
      go_wp2_with (go_at_call 61; refine (HB.out.2.2.1 VX HB.out.2.2.2.2.2.2.2.2.1).mono ?_; rintro e w3 ⟨A1, c1, q, rfl, ow, hq, b3⟩; have HC := Lib.hid (And.intro ow (And.intro hq b3)); clear ow hq b3)
      refine hK.out _ _ (HSS.out w3 HC.out.2.2) (fun hHeld => ?_)
      clear hK K
      try simp only [Act.put, List.setIfInBounds_toArray, List.set_cons_zero, List.set_cons_succ]
      refine wpAnyH_take (i := 12) (oi := _) (v := ?_) rfl (by kernel_rfl) (by kernel_rfl) (by kernel_rfl) (fun _ _ _ h => h) (Or.inl ⟨by rfl, ?_⟩) (by assumption) ?_
      rotate_left
      · (intro w hSw; (try dsimp only at hSw); go_simp; try with_reducible rfl)
      try simp only [Act.put, List.setIfInBounds_toArray, List.set_cons_zero, List.set_cons_succ]
      refine wpAnyH_ready (rs := [13]) (by kernel_rfl) (by simp) ?_
      refine (AllReadyH.cons (o := _) rfl (fun K hK => ?_) AllReadyH.nil)
      go_simp
      obtain ⟨tb, htb⟩ : ∃ b, b = w3.heap.size := ⟨_, rfl⟩
      obtain ⟨u4, hu4⟩ : ∃ u, u = w3.alloc (.cells #[.int .i64 m, .int .i64 p, .string V, .slice A1 a c1, .string N] 93) := ⟨_, rfl⟩
      rw [← hu4, ← htb]
      have b4 : Below w3.heap.size w3 u4 := by rw [hu4]; exact (Below.refl _ _).alloc (Nat.le_refl _) _
      have h4 : u4.heap[tb]? = some (.cells #[.int .i64 m, .int .i64 p, .string V, .slice A1 a c1, .string N] 93 (0, 0)) := by rw [hu4, htb]; exact heap_alloc_new _ _
      have H4 := Lib.hid (And.intro b4 h4)
      clear b4 h4 hu4 htb
      refine hK.out _ _ (HSS.out u4 (HC.out.2.2.trans (H4.out.1.mono HC.out.2.2.size))) (fun hHeld => ?_)
      clear hK K
      try simp only [Act.put, List.setIfInBounds_toArray, List.set_cons_zero, List.set_cons_succ]
      refine wpAnyH_ready (rs := [14]) (by kernel_rfl) (by simp) ?_
      refine (AllReadyH.cons (o := _) rfl (fun K hK => ?_) AllReadyH.nil)
      have hOV : EsO w A' c' es qo u4 := Own.below (Own.below (Own.below HB.out.2.1 HB.out.2.2.2.2.2.2.2.2.1) HC.out.2.2) H4.out.1
      have HOV := Lib.hid hOV
      have own4 := hOV.owns 0 rfl
      rw [← HB.out.2.2.2.2.2.2.1] at own4
      clear hOV
      refine wp_append_S (size := 5) (.tmp 16) (.tmp 29) 27 rfl iE _ 72 Tryz.underlying27 hE0 hE1 hE2 (by decide) hE3 rfl (A := A') (n := k) (c := c') (xs := entsV es) (fp := qo) (by simp [Act.eval]) ⟨tb, 0, none⟩ (by simp [Act.eval]) [.int .i64 m, .int .i64 p, .string V, .slice A1 a c1, .string N] own4 rfl (fun j v hj => by rw [show (⟨tb, 0, none⟩ : Addr).add j = ⟨tb, j, none⟩ from by simp [Addr.add]; omega]; exact (cell_of_heap H4.out.2 j).trans (by simpa using hj)) (by intro u hu; simp at hu; rcases hu with rfl | rfl | rfl | rfl | rfl <;> rfl) (by omega) (by decide) ?_
      intro g9 c9 w9 q1 q2 q3 q4
      have H9 := Lib.hid (And.intro q1 (And.intro q2 q4))
      clear q1 q2 q3 q4 own4
      refine hK.out _ _ (by
        have hx4 := (HSS.out u4 (HC.out.2.2.trans (H4.out.1.mono HC.out.2.2.size)))
        obtain ⟨z0, x0, x1, x2, x3, x4⟩ := hx4
        have hk9 := H9.out.2.2
        exact ⟨Nat.lt_of_lt_of_le z0 hk9.size, hk9.cell (b := xb) (o := 0) x0 HXQ.out, hk9.cell (b := xb) (o := 1) x1 HXQ.out, hk9.cell (b := xb) (o := 2) x2 HXQ.out, hk9.cell (b := xb) (o := 3) x3 HXQ.out, hk9.cell (b := xb) (o := 4) x4 HXQ.out⟩) (fun hHeld => ?_)
      clear hK K
      try simp only [Act.put, List.setIfInBounds_toArray, List.set_cons_zero, List.set_cons_succ]
      refine wpAnyH_take (i := 15) (oi := _) (v := ?_) rfl (by kernel_rfl) (by kernel_rfl) (by kernel_rfl) (fun _ _ _ h => h) (Or.inl ⟨by rfl, ?_⟩) (by assumption) ?_
      rotate_left
      · (intro w hSw; (try dsimp only at hSw); go_simp; try with_reducible rfl)
      try simp only [Act.put, List.setIfInBounds_toArray, List.set_cons_zero, List.set_cons_succ]
      refine wpAnyH_done (by kernel_rfl) ?_ _
      try dsimp only
      try simp only [List.getElem_toArray, List.getElem_cons_zero, List.getElem_cons_succ, List.set_cons_zero, List.set_cons_succ]
      go_wp2_with fail
      go_roundg (n - (k + 1))
      case measure => omega
      case rel =>
        obtain ⟨BX, hOX, kc, gq, hex, hex2, hk, ha, bVX, hen⟩ := HB.out
        obtain ⟨ow, hq, b3⟩ := HC.out
        have hrd := ow.rd
        rw [ha] at hrd
        have o2 : EsO w A' c' es qo VX := Own.below hOX bVX
        have o3 := Own.upd o2 1 rfl (i' := .gen (arsB (es ++ [⟨E.x, A1, c1⟩])) (fun w => EnsOk w (es ++ [⟨E.x, A1, c1⟩]))) (Keep.of_below b3) (ens_gen (fun e he => by
            rcases List.mem_append.1 he with he | he
            · exact (gen_ens (o2.get 1 rfl) e he).below b3
            · rw [List.mem_singleton.1 he]; exact hrd)) (fun y hy => by
            simp only [It.fp] at hy
            unfold arsB at hy
            rw [List.flatMap_append] at hy
            rcases List.mem_append.1 hy with hy | hy
            · exact .inl hy
            · right
              simp only [List.flatMap_cons, List.flatMap_nil, List.append_nil] at hy
              unfold arB at hy
              split at hy
              · cases hy
              · rcases ow.2 with ⟨rfl, _⟩ | ⟨g, off9, cur, rfl, rfl, _⟩
                · simp at hy
                · simp at hy
                  subst hy
                  exact hq _ (by simp))
        have o4 := o3.below H4.out.1
        have hev : entsV es ++ [Value.int .i64 m, Value.int .i64 p, Value.string V, Value.slice A1 a c1, Value.string N] = entsV (es ++ [⟨E.x, A1, c1⟩]) := by
          rw [← entsV_snoc, hen]
        obtain ⟨q1, q2, q4⟩ := H9.out
        have hel : (es ++ [(⟨E.x, A1, c1⟩ : EnM)]).length = k + 1 := by rw [List.length_append, ← hk]; rfl
        have o9 := Own.upd o4 0 rfl (i' := .own 93 5 (some ⟨g9, 0, none⟩) (k + 1) c9 (entsV es ++ [Value.int .i64 m, Value.int .i64 p, Value.string V, Value.slice A1 a c1, Value.string N]) [g9]) q4 q1 (fun y hy => by
          simp [It.fp] at hy
          subst hy
          rcases q2 with e | e
          · exact .inl e
          · exact .inr (Nat.le_of_eq e))
        rw [hev] at o9
        refine ⟨es ++ [⟨E.x, A1, c1⟩], some ⟨g9, 0, none⟩, c9, [g9], by rw [hel]; omega, by rw [hel]; go_num, by rw [hel], ?_, ?_⟩
        · rw [hel, hex2, ← hex]
          simp [exs]
        · unfold EsO
          rw [hel]
          exact o9
    · have hkn : k = n := by omega
      have HQ := Lib.hid (And.intro hO (And.intro hex (And.intro hk hkn)))
      clear hO hex hk hkn bb
      go_wp2_with fail
      go_ret
      obtain ⟨hO, hex, hk, hkn⟩ := HQ.out
      refine ⟨es, A', c', qo, by rw [← hk]; rfl, ?_, hO⟩
      rw [hex, List.take_of_length_le]
      simp [exs]
      have := H.out.2.2.2; omega
end Go.Proofs.YtaokegobilphnaaGreatDoor
/- polynyakit.SameInts: nothing but the draws is left of it -/
namespace Go.Proofs.YtaokegobilphnaaGreatDoor
open Go Go.RowKit Sp
set_option linter.unusedVariables false

set_option maxRecDepth 100000 in
set_option maxHeartbeats 1000000 in
theorem sameIntsQ_any (A : Option Addr) (c : Nat) (l : List Int) (B : Option Addr) (d : Nat) (w : World) (hr : Rd w 1 A l.length (ints l)) (hr2 : Rd w 1 B l.length (ints l)) (hm : l.length ≤ 9223372036854775807) :
    Calls Tryz.prog 30 #[.slice A l.length c, .slice B l.length d] w fun e w' => e = .returned (.bool true) ∧ ∃ m, w' = w.drewN m := by
  have HR := Lib.hid (And.intro hr hr2)
  clear hr hr2
  go_enter Tryz.func30, Tryz.ntmps30
  go_wp2_with fail
  go_loopw [5] (fun i wr => ∃ (k m : Nat), k ≤ l.length ∧ i = .int .i64 k ∧ wr = w.drewN m) (fun i _ => l.length - (intOf i).toNat)
  case atStart => exact ⟨0, 0, Nat.zero_le _, rfl, rfl⟩
  case round =>
    obtain ⟨k, m, hk, rfl, rfl⟩ := hrel
    by_cases hlt : k < l.length
    · obtain ⟨b1, o1, rfl, z1, k1⟩ := HR.out.1.2 (by omega)
      obtain ⟨b2, o2, rfl, z2, k2⟩ := HR.out.2.2 (by omega)
      obtain ⟨x, hx⟩ : ∃ x, x = l.getD k 0 := ⟨_, rfl⟩
      have c1 := k1 k _ (ints_get hlt)
      have c2 := k2 k _ (ints_get hlt)
      rw [← hx] at c1 c2
      have hxx : (x != x) = false := by simp
      have n1 : (0 : Int) ≤ (k : Int) := by omega
      have n2 : (k : Int) < (l.length : Int) := by omega
      clear k1 k2 hx
      go_upto_region 6 with fail
      go_quiet (fail)
      go_wp2_with fail
      go_roundw
      case measure => simp [intOf]; omega
      case rel => exact ⟨k + 1, _, by omega, by go_num, rfl⟩
    · go_wp2_with fail
      go_ret
      exact ⟨rfl, m, rfl⟩
end Go.Proofs.YtaokegobilphnaaGreatDoor
/- polynyalaw13.same, of entries that are the same -/
namespace Go.Proofs.YtaokegobilphnaaGreatDoor
open Go Go.RowKit Go.Shelf Go.Proofs Sp Lg
set_option linter.unusedVariables false
set_option linter.unusedSimpArgs false

set_option maxRecDepth 100000 in
set_option maxHeartbeats 4000000 in
theorem sameEn_any (L M : List EnM) (A : Option Addr) (c : Nat) (B : Option Addr) (d : Nat) (w : World) (hr : Rd w 5 A L.length (entsV L)) (hE : EnsOk w L) (hr2 : Rd w 5 B M.length (entsV M)) (hE2 : EnsOk w M) (hx : exs L = exs M) (hl : L.length ≤ 1000000) (ha : ∀ e ∈ L, e.x.args.length ≤ 1000000) :
    Calls Tryz.prog 15 #[.slice A L.length c, .slice B M.length d] w fun e w' => e = .returned (.bool true) ∧ Below w.heap.size w w' := by
  have hml : M.length = L.length := by have := congrArg List.length hx; simp [exs] at this; exact this.symm
  rw [hml] at hr2 ⊢
  obtain ⟨n, hn⟩ : ∃ n, n = L.length := ⟨_, rfl⟩
  rw [← hn] at hr hr2 hl hml
  rw [← hn]
  have H := Lib.hid (And.intro hr (And.intro hE (And.intro hr2 (And.intro hE2 (And.intro hx (And.intro ha (And.intro hn hml)))))))
  clear hr hE hr2 hE2 hx ha hn hml
  go_enter Tryz.func15, Tryz.ntmps15
  go_wp2_with fail
  go_loopg [5] n (fun g i wr => ∃ k : Nat, g + k = n ∧ i = .int .i64 k ∧ Below w.heap.size w wr)
  case atStart => exact ⟨0, rfl, rfl, Below.refl _ _⟩
  case round =>
    obtain ⟨k, hk, rfl, bb⟩ := hrel
    by_cases hlt : k < n
    · have hkL : k < L.length := by have := H.out.2.2.2.2.2.2.1; omega
      have hkM : k < M.length := by have := H.out.2.2.2.2.2.2.2; omega
      obtain ⟨b, off, rfl, hb, hc⟩ := H.out.1.2 (by omega)
      obtain ⟨b2, off2, rfl, hb2, hc2⟩ := H.out.2.2.1.2 (by omega)
      have zb := Nat.lt_of_lt_of_le hb bb.size
      have zb2 := Nat.lt_of_lt_of_le hb2 bb.size
      obtain ⟨E, hE⟩ : ∃ E, E = L[k] := ⟨_, rfl⟩
      obtain ⟨F, hF⟩ : ∃ E, E = M[k] := ⟨_, rfl⟩
      have hEF : F.x = E.x := by
        have h1 : (exs L)[k]? = some E.x := by unfold exs; rw [List.getElem?_map, List.getElem?_eq_getElem hkL, hE]; rfl
        have h2 : (exs M)[k]? = some F.x := by unfold exs; rw [List.getElem?_map, List.getElem?_eq_getElem hkM, hF]; rfl
        rw [H.out.2.2.2.2.1, h2] at h1
        exact Option.some.inj h1
      have ct : ∀ j u, j < 5 → (entL E)[j]? = some u → wr.cell? ⟨b, off + k * 5 + j, none⟩ = some u := fun j u hj hu => by
        rw [Nat.add_assoc]
        exact (bb.cell (p := ⟨b, off + (k * 5 + j), none⟩) hb).trans (hc _ _ (by unfold entsV; rw [flatE_get hkL hj, ← hE]; exact hu))
      have ct2 : ∀ j u, j < 5 → (entL F)[j]? = some u → wr.cell? ⟨b2, off2 + k * 5 + j, none⟩ = some u := fun j u hj hu => by
        rw [Nat.add_assoc]
        exact (bb.cell (p := ⟨b2, off2 + (k * 5 + j), none⟩) hb2).trans (hc2 _ _ (by unfold entsV; rw [flatE_get hkM hj, ← hF]; exact hu))
      obtain ⟨m, hm⟩ : ∃ m, m = E.x.minute := ⟨_, rfl⟩
      obtain ⟨p, hp⟩ : ∃ m, m = E.x.ship := ⟨_, rfl⟩
      obtain ⟨V, hV⟩ : ∃ m, m = bs E.x.verb := ⟨_, rfl⟩
      obtain ⟨N, hN⟩ : ∃ m, m = bs E.x.note := ⟨_, rfl⟩
      obtain ⟨a, ha⟩ : ∃ m, m = E.x.args.length := ⟨_, rfl⟩
      obtain ⟨AA, hAA⟩ : ∃ m, m = E.A := ⟨_, rfl⟩
      obtain ⟨cc, hcc⟩ : ∃ m, m = E.c := ⟨_, rfl⟩
      obtain ⟨BB, hBB⟩ : ∃ m, m = F.A := ⟨_, rfl⟩
      obtain ⟨dd, hdd⟩ : ∃ m, m = F.c := ⟨_, rfl⟩
      have c0 : wr.cell? ⟨b, off + k * 5, none⟩ = some (.int .i64 m) := ct 0 _ (by decide) (by rw [hm]; rfl)
      have c1 : wr.cell? ⟨b, off + k * 5 + 1, none⟩ = some (.int .i64 p) := ct 1 _ (by decide) (by rw [hp]; rfl)
      have c2 : wr.cell? ⟨b, off + k * 5 + 2, none⟩ = some (.string V) := ct 2 _ (by decide) (by rw [hV]; rfl)
      have c3 : wr.cell? ⟨b, off + k * 5 + 3, none⟩ = some (.slice AA a cc) := ct 3 _ (by decide) (by rw [ha, hAA, hcc]; rfl)
      have c4 : wr.cell? ⟨b, off + k * 5 + 4, none⟩ = some (.string N) := ct 4 _ (by decide) (by rw [hN]; rfl)
      have d0 : wr.cell? ⟨b2, off2 + k * 5, none⟩ = some (.int .i64 m) := ct2 0 _ (by decide) (by rw [hm, ← hEF]; rfl)
      have d1 : wr.cell? ⟨b2, off2 + k * 5 + 1, none⟩ = some (.int .i64 p) := ct2 1 _ (by decide) (by rw [hp, ← hEF]; rfl)
      have d2 : wr.cell? ⟨b2, off2 + k * 5 + 2, none⟩ = some (.string V) := ct2 2 _ (by decide) (by rw [hV, ← hEF]; rfl)
      have d3 : wr.cell? ⟨b2, off2 + k * 5 + 3, none⟩ = some (.slice BB a dd) := ct2 3 _ (by decide) (by rw [ha, hBB, hdd, ← hEF]; rfl)
      have d4 : wr.cell? ⟨b2, off2 + k * 5 + 4, none⟩ = some (.string N) := ct2 4 _ (by decide) (by rw [hN, ← hEF]; rfl)
      have hmE : E ∈ L := by rw [hE]; exact List.getElem_mem _
      have hmF : F ∈ M := by rw [hF]; exact List.getElem_mem _
      have ks : ∀ q, Calls Tryz.prog 30 #[.slice AA a cc, .slice BB a dd] (wr.drewN q) fun e w' => e = .returned (.bool true) ∧ ∃ m, w' = (wr.drewN q).drewN m := fun q => by
        have hb9 := bb.trans ((below_drewN (Below.refl _ wr) q).mono bb.size)
        have hf := (H.out.2.2.2.1 F hmF).below hb9
        rw [hEF, ← hBB] at hf
        have he := (H.out.2.1 E hmE).below hb9
        rw [← hAA] at he
        have := sameIntsQ_any AA cc E.x.args BB dd (wr.drewN q) he hf (by have := H.out.2.2.2.2.2.1 E hmE; omega)
        rw [← ha] at this
        exact this
      have n1 : (0 : Int) ≤ (k : Int) := by omega
      have n2 : (k : Int) < (n : Int) := by omega
      have e0 : (m != m) = false := by simp
      have e1 : (p != p) = false := by simp
      have e2 : (V.toList != V.toList) = false := by simp
      have e4 : (N.toList != N.toList) = false := by simp
      have HB := Lib.hid (And.intro bb ks)
      clear bb ks ct ct2 hc hc2 hb hb2 hE hF hEF hm hp hV hN ha hAA hcc hBB hdd hmE hmF
      go_upto_region 6 with fail
      go_quiet ((go_at_call 30; refine (HB.out.2 _).mono ?_; rintro e W1 ⟨rfl, m9, rfl⟩; exact ⟨rfl, _, World.drewN_drewN _ _ _⟩))
      go_wp2_with fail
      go_roundg (n - (k + 1))
      case measure => omega
      case rel => exact ⟨k + 1, by omega, by go_num, below_drewN HB.out.1 _⟩
    · have HB := Lib.hid bb
      clear bb
      go_wp2_with fail
      go_ret
      exact ⟨rfl, HB.out⟩
end Go.Proofs.YtaokegobilphnaaGreatDoor
/- polynyalaw13.LogEntries -/
namespace Go.Proofs.YtaokegobilphnaaGreatDoor
open Go Go.RowKit Go.Shelf Go.Proofs Sp Lg
set_option linter.unusedVariables false
set_option linter.unusedSimpArgs false

theorem rdE_ok (l : List By) : ∀ (k i : Nat) (out : List Ent), (∀ x ∈ out, OkE x) → (∀ x ∈ (rdE l k i out).1, OkE x) ∧ (rdE l k i out).1.length ≤ out.length + k
  | 0, i, out, h => by
    rw [rdE]
    split
    · exact ⟨h, by simp⟩
    · exact ⟨by simp, by simp⟩
  | k + 1, i, out, h => by
    rw [rdE]
    split
    · exact ⟨by simp, by simp⟩
    · split
      · exact ⟨by simp, by simp⟩
      · rename_i x hx
        split
        · exact ⟨by simp, by simp⟩
        · have h1 := rdE_ok l k (i + 1) (out ++ [x]) (fun y hy => by
            rcases List.mem_append.1 hy with hy | hy
            · exact h y hy
            · rw [List.mem_singleton.1 hy]; exact (entB_some.1 hx).2)
          refine ⟨h1.1, ?_⟩
          have h2 := h1.2
          rw [List.length_append] at h2
          simp only [List.length_cons, List.length_nil] at h2
          omega
theorem rdLog_ok (T : By) : (∀ x ∈ (rdLog T).1, OkE x) ∧ (rdLog T).1.length ≤ 500 := by
  unfold rdLog
  split
  · exact ⟨by simp, by simp⟩
  · split
    · exact ⟨by simp, by simp⟩
    · split
      · exact ⟨by simp, by simp⟩
      · split
        · exact ⟨by simp, by simp⟩
        · rename_i n _ hn
          have h := rdE_ok (lines T) n 1 [] (by simp)
          refine ⟨h.1, ?_⟩
          have := h.2
          simp only [List.length_nil] at this
          omega
theorem plV_len (l : List Ent) : (plV l).length ≤ 300000 := by
  unfold plV
  split
  · rename_i h
    obtain ⟨h1, h2⟩ := ckL_ok h
    have h3 := fold_len (l.take l.length) (fun y hy => h2 y (List.mem_of_mem_take hy))
    have h4 : (l.take l.length).length ≤ l.length := by rw [List.length_take]; omega
    have h5 := dec_short 2 l.length (by omega)
    unfold plN
    rw [List.length_append, whole_len, List.length_append]
    simp only [List.length_cons, List.length_nil]
    omega
  · simp
/-- what LogEntries leaves to the examples -/
def LeBig (n z : Nat) : Prop := (40 < n ∧ n ≤ 500) ∨ 600 < n ∨ (4000 < z ∧ z ≤ 131072) ∨ 140000 < z
def LeSm (e : EnM) : Prop := e.x.verb.length ≤ 100 ∧ e.x.note.length ≤ 100 ∧ e.x.args.length ≤ 20
set_option maxRecDepth 100000 in
set_option maxHeartbeats 4000000 in
theorem logEntries_any (L : List EnM) (A : Option Addr) (c : Nat) (s : ByteArray) (w : World) (hr : Rd w 5 A L.length (entsV L)) (hE : EnsOk w L) (E : Env w) :
    Calls Tryz.prog 3 #[.slice A L.length c, .string s] w fun e w' => e = .returned (.bool true) ∧ Below w.heap.size w w' := by
  obtain ⟨n, hn⟩ : ∃ n, n = L.length := ⟨_, rfl⟩
  obtain ⟨z, hz⟩ : ∃ z, z = s.size := ⟨_, rfl⟩
  have hz2 : s.size = z := hz.symm
  rw [← hn] at hr
  rw [← hn]
  have ka : ∀ W, Below w.heap.size w W → Calls Tryz.prog 9 #[] W fun e w' => e = .returned (.bool true) ∧ Below w.heap.size w w' := fun W hW =>
    (awakeL_any W (Env.below E hW)).mono fun e w' h => ⟨h.1, hW.trans (h.2.mono hW.size)⟩
  have H := Lib.hid (And.intro hr (And.intro hE (And.intro E (And.intro hn (And.intro hz ka)))))
  clear hr hE E hn hz ka
  go_enter Tryz.func3, Tryz.ntmps3
  go_upto_region 1 with fail
  go_cut [46] from 19 to 46 (fun b wx => ∃ r : Bool, b = .bool r ∧ wx = w ∧ (r = true ↔ LeBig n z))
  case first =>
    have hN : n ≤ 40 ∨ (40 < n ∧ n ≤ 500) ∨ (500 < n ∧ n ≤ 600) ∨ 600 < n := by omega
    have hZ : z ≤ 4000 ∨ (4000 < z ∧ z ≤ 131072) ∨ (131072 < z ∧ z ≤ 140000) ∨ 140000 < z := by omega
    obtain ⟨d1, e1⟩ : ∃ b, decide ((40 : Int) < (n : Int)) = b := ⟨_, rfl⟩
    obtain ⟨d2, e2⟩ : ∃ b, decide ((n : Int) ≤ 500) = b := ⟨_, rfl⟩
    obtain ⟨d3, e3⟩ : ∃ b, decide ((600 : Int) < (n : Int)) = b := ⟨_, rfl⟩
    obtain ⟨d4, e4⟩ : ∃ b, decide ((4000 : Int) < (z : Int)) = b := ⟨_, rfl⟩
    obtain ⟨d5, e5⟩ : ∃ b, decide ((z : Int) ≤ 131072) = b := ⟨_, rfl⟩
    obtain ⟨d6, e6⟩ : ∃ b, decide ((140000 : Int) < (z : Int)) = b := ⟨_, rfl⟩
    have hb : ((d1 && d2) || d3 || (d4 && d5) || d6) = true ↔ LeBig n z := by
      rw [← e1, ← e2, ← e3, ← e4, ← e5, ← e6]
      simp only [Bool.or_eq_true, Bool.and_eq_true, decide_eq_true_eq]
      unfold LeBig
      omega
    have HB := Lib.hid hb
    clear hb hN hZ
    cases d1 <;> cases d2 <;> cases d3 <;> cases d4 <;> cases d5 <;> cases d6 <;> first
      | (exfalso; simp only [decide_eq_true_eq, decide_eq_false_iff_not] at e1 e2 e3 e4 e5 e6; omega)
      | (go_wp2_with fail; go_meet; exact ⟨_, rfl, rfl, HB.out⟩)
  case rest =>
  obtain ⟨r, rfl, hw0, hb⟩ := hcut
  rw [hw0]
  clear hw0
  apply_assumption
  cases r with
  | true =>
    go_wp2_with (go_at_call 9; refine (H.out.2.2.2.2.2 w (Below.refl _ _)).mono ?_; rintro e w1 ⟨rfl, b1⟩; have H1 := Lib.hid b1; clear b1)
    go_ret
    exact ⟨rfl, H1.out⟩
  | false =>
    have hbig : ¬ LeBig n z := fun h => by cases hb.2 h
    have hn6 : n ≤ 600 := by unfold LeBig at hbig; omega
    have hz6 : z ≤ 140000 := by unfold LeBig at hbig; omega
    clear hbig hb
    go_upto_block 0 with fail
    go_cut [] from 48 to 79 (fun wx => wx = w ∧ ∀ e ∈ L, LeSm e)
    case first =>
      go_wp2_with fail
      go_loopg [5] n (fun g i wr => ∃ k : Nat, g + k = n ∧ i = .int .i64 k ∧ wr = w ∧ ∀ j (hj : j < L.length), j < k → LeSm L[j])
      case atStart => exact ⟨0, rfl, rfl, rfl, fun j hj h => absurd h (by omega)⟩
      case round =>
        obtain ⟨k, hk, rfl, hw1, hsm⟩ := hrel
        rw [hw1]
        clear hw1
        have HSM := Lib.hid hsm
        clear hsm
        by_cases hlt : k < n
        · have hkL : k < L.length := by have := H.out.2.2.2.1; omega
          obtain ⟨b, off, rfl, hb, hc⟩ := H.out.1.2 (by omega)
          obtain ⟨F, hF⟩ : ∃ E, E = L[k] := ⟨_, rfl⟩
          have ct : ∀ j u, j < 5 → (entL F)[j]? = some u → w.cell? ⟨b, off + k * 5 + j, none⟩ = some u := fun j u hj hu => by
            rw [Nat.add_assoc]
            exact hc _ _ (by unfold entsV; rw [flatE_get hkL hj, ← hF]; exact hu)
          obtain ⟨V, hV⟩ : ∃ m, m = bs F.x.verb := ⟨_, rfl⟩
          obtain ⟨N, hN⟩ : ∃ m, m = bs F.x.note := ⟨_, rfl⟩
          obtain ⟨a, ha⟩ : ∃ m, m = F.x.args.length := ⟨_, rfl⟩
          obtain ⟨AA, hAA⟩ : ∃ m, m = F.A := ⟨_, rfl⟩
          obtain ⟨cc, hcc⟩ : ∃ m, m = F.c := ⟨_, rfl⟩
          have c2 : w.cell? ⟨b, off + k * 5 + 2, none⟩ = some (.string V) := ct 2 _ (by decide) (by rw [hV]; rfl)
          have c3 : w.cell? ⟨b, off + k * 5 + 3, none⟩ = some (.slice AA a cc) := ct 3 _ (by decide) (by rw [ha, hAA, hcc]; rfl)
          have c4 : w.cell? ⟨b, off + k * 5 + 4, none⟩ = some (.string N) := ct 4 _ (by decide) (by rw [hN]; rfl)
          obtain ⟨zv, hzv⟩ : ∃ v, V.size = v := ⟨_, rfl⟩
          obtain ⟨zn, hzn⟩ : ∃ v, N.size = v := ⟨_, rfl⟩
          have hsmE : LeSm F ↔ zv ≤ 100 ∧ zn ≤ 100 ∧ a ≤ 20 := by unfold LeSm; rw [← hzv, ← hzn, hV, hN, bs_size, bs_size, ha]
          have HE := Lib.hid (And.intro hsmE hF)
          have k0 : (0 : Int) ≤ (k : Int) := by omega
          have k1 : (k : Int) < (n : Int) := by omega
          clear hsmE hF ct hV hN ha hAA hcc hc
          go_upto_region 6 with fail
          go_cut [78] from 54 to 78 (fun b wx => ∃ r : Bool, b = .bool r ∧ wx = w ∧ (r = true ↔ ¬ LeSm F))
          case first =>
            obtain ⟨d1, e1⟩ : ∃ b, decide ((100 : Int) < (zv : Int)) = b := ⟨_, rfl⟩
            obtain ⟨d2, e2⟩ : ∃ b, decide ((100 : Int) < (zn : Int)) = b := ⟨_, rfl⟩
            obtain ⟨d3, e3⟩ : ∃ b, decide ((20 : Int) < (a : Int)) = b := ⟨_, rfl⟩
            have hb : ((d1 || d2) || d3) = true ↔ ¬ LeSm F := by
              rw [← e1, ← e2, ← e3, HE.out.1]
              simp only [Bool.or_eq_true, decide_eq_true_eq]
              omega
            have HB := Lib.hid hb
            clear hb
            cases d1 <;> cases d2 <;> cases d3 <;> (go_wp2_with fail; go_meet; exact ⟨_, rfl, rfl, HB.out⟩)
          case rest =>
          obtain ⟨r, rfl, hw2, hb2⟩ := hcut
          rw [hw2]
          clear hw2
          apply_assumption
          have HB2 := Lib.hid hb2
          clear hb2
          cases r with
          | true =>
            go_wp2_with (go_at_call 9; refine (H.out.2.2.2.2.2 w (Below.refl _ _)).mono ?_; rintro e w1 ⟨rfl, b1⟩; have H1 := Lib.hid b1; clear b1)
            go_ret
            exact ⟨rfl, H1.out⟩
          | false =>
            go_wp2_with fail
            go_roundg (n - (k + 1))
            case measure => omega
            case rel =>
              refine ⟨k + 1, by omega, by go_num, rfl, fun j hj h => ?_⟩
              by_cases hjk : j = k
              · subst hjk
                rw [← HE.out.2]
                exact Classical.byContradiction fun hc => by cases HB2.out.2 hc
              · exact HSM.out j hj (by omega)
        · go_wp2_with fail
          go_meet
          refine ⟨rfl, fun e he => ?_⟩
          obtain ⟨j, hj, rfl⟩ := List.mem_iff_getElem.1 he
          exact HSM.out j hj (by have := H.out.2.2.2.1; omega)
    case rest =>
    obtain ⟨hw3, hsm⟩ := hcut
    rw [hw3]
    clear hw3
    apply_assumption
    obtain ⟨ce, hce⟩ : ∃ e, e = ckL (exs L) := ⟨_, rfl⟩
    obtain ⟨P, hP⟩ : ∃ v, v = bs (plV (exs L)) := ⟨_, rfl⟩
    have hPs : P.size ≤ 300000 := by rw [hP, bs_size]; exact plV_len _
    have hss : s.size ≤ 300000 := by omega
    have hsL : EnsSm L := fun e he => by have h := hsm e he; unfold LeSm at h; exact ⟨by omega, by omega, by omega⟩
    have haL : ∀ e ∈ L, e.x.args.length ≤ 1000000 := fun e he => (hsL e he).2.2
    have hL1 : L.length ≤ 1000000 := by have := H.out.2.2.2.1; omega
    have hsub : ∀ (es : List EnM), exs es = exs L → es.length = n ∧ EnsSm es ∧ ∀ e ∈ es, e.x.args.length ≤ 1000000 := fun es hx => by
      have hl : es.length = n := by have := congrArg List.length hx; simp only [exs, List.length_map] at this; rw [this]; exact H.out.2.2.2.1.symm
      have hm : ∀ e ∈ es, ∃ f ∈ L, f.x = e.x := fun e he => by
        have h1 : e.x ∈ exs L := by rw [← hx]; exact List.mem_map.2 ⟨e, he, rfl⟩
        obtain ⟨f, hf, h2⟩ := List.mem_map.1 h1
        exact ⟨f, hf, h2⟩
      refine ⟨hl, fun e he => ?_, fun e he => ?_⟩
      · obtain ⟨f, hf, h2⟩ := hm e he
        rw [← h2]; exact hsL f hf
      · obtain ⟨f, hf, h2⟩ := hm e he
        rw [← h2]; exact haL f hf
    have ke : Calls Tryz.prog 10 #[.slice A n c] w fun e w' => ∃ (es : List EnM) (A1 : Option Addr) (c1 : Nat) (qo : List Nat), e = .returned (.slice A1 n c1) ∧ exs es = exs L ∧ EsO w A1 c1 es qo w' := by
      have h := entries_any L A c w (by rw [← H.out.2.2.2.1]; exact H.out.1) H.out.2.1 hL1 haL
      rw [← H.out.2.2.2.1] at h
      refine h.mono ?_
      rintro e w' ⟨es, A1, c1, qo, rfl, hx, hO⟩
      exact ⟨es, A1, c1, qo, by rw [(hsub es hx).1], hx, hO⟩
    have HL := Lib.hid (And.intro hce (And.intro hP (And.intro hsL (And.intro haL (And.intro hL1 hsub)))))
    clear hce hP hsL haL hL1 hsub hsm
    go_upto_region 9 with (go_at_call 10; refine ke.mono ?_; rintro e w1 ⟨es, A1, c1, qo, rfl, hx, hO⟩; have H1 := Lib.hid (And.intro hx hO); clear hx hO)
    clear ke
    obtain ⟨hx, hO⟩ := H1.out
    have b1 := hO.bel
    obtain ⟨hel, hsE, haE⟩ := HL.out.2.2.2.2.2 es hx
    have rd1 : Rd w1 5 A1 es.length (entsV es) := (hO.owns 0 rfl).rd
    have en1 : EnsOk w1 es := gen_ens (hO.get 1 rfl)
    have kC1 : ∀ W, Below w1.heap.size w1 W → Calls Tryz.prog 11 #[.slice A1 n c1] W fun e w' => e = .returned (.int .i64 ce) ∧ Below W.heap.size W w' := fun W hW => by
      have h := gCheck_any es A1 c1 W (rd1.below hW) (en1.below hW) hsE (by omega)
      rw [hx, ← HL.out.1, hel] at h
      exact h
    have kP1 : ∀ W, Below w1.heap.size w1 W → Calls Tryz.prog 13 #[.slice A1 n c1] W fun e w' => e = .returned (.tuple #[.string P, .int .i64 ce]) ∧ Below W.heap.size W w' := fun W hW => by
      have h := gPrintLog_any es A1 c1 W (rd1.below hW) (en1.below hW) hsE (by omega) (Env.below H.out.2.2.1 (b1.trans (hW.mono b1.size)))
      unfold PlPost at h
      rw [hx, ← HL.out.1, ← HL.out.2.1, hel] at h
      exact h
    have hrL : Rd w 5 A L.length (entsV L) := by rw [← H.out.2.2.2.1]; exact H.out.1
    have kC2 : ∀ W, Below w.heap.size w W → Calls Tryz.prog 12 #[.slice A n c] W fun e w' => e = .returned (.int .i64 ce) ∧ Below W.heap.size W w' := fun W hW => by
      have h := rCheck_any L A c W (hrL.below hW) (H.out.2.1.below hW) HL.out.2.2.1 HL.out.2.2.2.2.1
      rw [← HL.out.1, ← H.out.2.2.2.1] at h
      exact h
    have kP2 : ∀ W, Below w.heap.size w W → Calls Tryz.prog 14 #[.slice A n c] W fun e w' => e = .returned (.tuple #[.string P, .int .i64 ce]) ∧ Below W.heap.size W w' := fun W hW => by
      have h := rPrintLog_any L A c W (hrL.below hW) (H.out.2.1.below hW) HL.out.2.2.1 HL.out.2.2.2.2.1
      unfold PlPost at h
      rw [← HL.out.1, ← HL.out.2.1, ← H.out.2.2.2.1] at h
      exact h
    have kS1 : ∀ W, Below w1.heap.size w1 W → Calls Tryz.prog 15 #[.slice A1 n c1, .slice A n c] W fun e w' => e = .returned (.bool true) ∧ Below W.heap.size W w' := fun W hW => by
      have hW0 := b1.trans (hW.mono b1.size)
      have h := sameEn_any es L A1 c1 A c W (rd1.below hW) (en1.below hW) (hrL.below hW0) (H.out.2.1.below hW0) hx (by omega) haE
      rw [hel, ← H.out.2.2.2.1] at h
      exact h
    have HC := Lib.hid (And.intro kC1 (And.intro kP1 (And.intro kC2 (And.intro kP2 (And.intro kS1 b1)))))
    clear kC1 kP1 kC2 kP2 kS1 b1 hrL rd1 en1 hel hsE haE hx hO
    have hce2 : (ce != ce) = false := by simp
    have hPP : (P.toList != P.toList) = false := by simp
    go_upto_block 2 with (first
      | (go_at_call 11; refine (HC.out.1 w1 (Below.refl _ _)).mono ?_; rintro e w2 ⟨rfl, b2⟩; have H2 := Lib.hid b2; clear b2)
      | (go_at_call 12; refine (HC.out.2.2.1 w2 (HC.out.2.2.2.2.2.trans (H2.out.mono HC.out.2.2.2.2.2.size))).mono ?_; rintro e w3 ⟨rfl, b3⟩; have H3 := Lib.hid (H2.out.trans (b3.mono H2.out.size)); clear b3)
      | (go_at_call 13; refine (HC.out.2.1 w3 H3.out).mono ?_; rintro e w4 ⟨rfl, b4⟩; have H4 := Lib.hid (H3.out.trans (b4.mono H3.out.size)); clear b4)
      | (go_at_call 14; refine (HC.out.2.2.2.1 w4 (HC.out.2.2.2.2.2.trans (H4.out.mono HC.out.2.2.2.2.2.size))).mono ?_; rintro e w5 ⟨rfl, b5⟩; have H5 := Lib.hid (H4.out.trans (b5.mono H4.out.size)); clear b5)
      | (go_at_call 15; refine (HC.out.2.2.2.2.1 w5 H5.out).mono ?_; rintro e w6 ⟨rfl, b6⟩; have H6 := Lib.hid (H5.out.trans (b6.mono H5.out.size)); clear b6))
    obtain ⟨tb, htb⟩ : ∃ b, b = w6.heap.size := ⟨_, rfl⟩
    obtain ⟨u7, hu7⟩ : ∃ u, u = w6.alloc (.cells #[.string s, .string P] 9) := ⟨_, rfl⟩
    have b7 : Below w6.heap.size w6 u7 := by rw [hu7]; exact (Below.refl _ _).alloc (Nat.le_refl _) _
    have ht7 : u7.heap[tb]? = some (.cells #[.string s, .string P] 9 (0, 0)) := by rw [hu7, htb]; exact heap_alloc_new _ _
    have bw1 := HC.out.2.2.2.2.2
    have b16 := H6.out.trans (b7.mono H6.out.size)
    have H7 := Lib.hid (And.intro ht7 (bw1.trans (b16.mono bw1.size)))
    rw [← hu7, ← htb]
    clear b7 ht7 bw1 b16 hu7 htb
    go_cut [] from 116 to 145 (fun wx => Below w.heap.size w wx)
    case first =>
      go_wp2_with fail
      go_loopg [115] 2 (fun g i wr => ∃ k : Nat, g + k = 2 ∧ i = .int .i64 k ∧ Below u7.heap.size u7 wr)
      case atStart => exact ⟨0, rfl, rfl, Below.refl _ _⟩
      case round =>
        obtain ⟨k, hk, rfl, bb⟩ := hrel
        have bw := H7.out.2.trans (bb.mono H7.out.2.size)
        have ht := (bb.block tb (heap_lt H7.out.1)).trans H7.out.1
        have zt := heap_lt ht
        by_cases hk2 : k < 2
        · obtain ⟨T, hTc, hTs⟩ : ∃ T : ByteArray, wr.cell? ⟨tb, k, none⟩ = some (.string T) ∧ T.size ≤ 300000 := by
            match k, hk2 with
            | 0, _ => exact ⟨s, (cell_of_heap ht 0).trans rfl, hss⟩
            | 1, _ => exact ⟨P, (cell_of_heap ht 1).trans rfl, hPs⟩
          obtain ⟨X, hX⟩ : ∃ X, X = (rdLog T.data.toList).1 := ⟨_, rfl⟩
          obtain ⟨r1, hr1⟩ : ∃ x : Int, x = ((rdLog T.data.toList).2.1 : Nat) := ⟨_, rfl⟩
          obtain ⟨r2, hr2⟩ : ∃ x, x = (rdLog T.data.toList).2.2 := ⟨_, rfl⟩
          obtain ⟨m, hm⟩ : ∃ m, m = X.length := ⟨_, rfl⟩
          have hXo := (rdLog_ok T.data.toList).1
          have hXl := (rdLog_ok T.data.toList).2
          rw [← hX] at hXo hXl
          have hcv : ∀ {W : World} {e : Ending} {w' : World}, RlPost W T.data.toList e w' → ∃ A c es, e = .returned (.tuple #[.slice A m c, .int .i64 r1, .int .i64 r2]) ∧ exs es = X ∧ es.length = m ∧ Rd w' 5 A es.length (entsV es) ∧ EnsOk w' es ∧ Below W.heap.size W w' := by
            rintro W e w' ⟨A, c, es, rfl, h1, h2, h3, h4⟩
            have hl : es.length = m := by rw [hm, hX, ← h1]; simp [exs]
            exact ⟨A, c, es, by rw [hl, hr1, hr2], by rw [h1, hX], hl, h2, h3, h4⟩
          have kg : ∀ W, Below w.heap.size w W → Calls Tryz.prog 16 #[.string T] W fun e w' => ∃ A c es, e = .returned (.tuple #[.slice A m c, .int .i64 r1, .int .i64 r2]) ∧ exs es = X ∧ es.length = m ∧ Rd w' 5 A es.length (entsV es) ∧ EnsOk w' es ∧ Below W.heap.size W w' := fun W hW =>
            (gReadLog_any T W (by omega) (Env.below H.out.2.2.1 hW)).mono fun e w' h => hcv h
          have kr : ∀ W, Calls Tryz.prog 17 #[.string T] W fun e w' => ∃ A c es, e = .returned (.tuple #[.slice A m c, .int .i64 r1, .int .i64 r2]) ∧ exs es = X ∧ es.length = m ∧ Rd w' 5 A es.length (entsV es) ∧ EnsOk w' es ∧ Below W.heap.size W w' := fun W =>
            (rReadLog_any T W (by omega)).mono fun e w' h => hcv h
          have hr11 : (r1 != r1) = false := by simp
          have hr22 : (r2 != r2) = false := by simp
          have k0 : (0 : Int) ≤ (k : Int) := by omega
          have k1 : (k : Int) < 2 := by omega
          have HR := Lib.hid (And.intro kg (And.intro kr (And.intro hXo (And.intro hXl (And.intro hm (And.intro bb bw))))))
          clear kg kr hXo hXl hm bb bw hcv hX hr1 hr2 ht
          go_wp2_with (first
            | (go_at_call 16; refine (HR.out.1 wr HR.out.2.2.2.2.2.2).mono ?_; rintro e v1 ⟨A5, c5, es5, rfl, x5, l5, rd5, en5, b5⟩; have H51 := Lib.hid (And.intro x5 (And.intro l5 (And.intro rd5 (And.intro en5 b5)))); clear x5 l5 rd5 en5 b5)
            | (go_at_call 17; refine (HR.out.2.1 v1).mono ?_; rintro e v2 ⟨A6, c6, es6, rfl, x6, l6, rd6, en6, b6⟩; have H61 := Lib.hid (And.intro x6 (And.intro l6 (And.intro rd6 (And.intro en6 b6)))); clear x6 l6 rd6 en6 b6)
            | (go_at_call 15
               have ksm : Calls Tryz.prog 15 #[.slice A5 m c5, .slice A6 m c6] v2 fun e w' => e = .returned (.bool true) ∧ Below v2.heap.size v2 w' := by
                 obtain ⟨x5, l5, rd5, en5, b5⟩ := H51.out
                 obtain ⟨x6, l6, rd6, en6, b6⟩ := H61.out
                 have h := sameEn_any es5 es6 A5 c5 A6 c6 v2 (rd5.below b6) (en5.below b6) rd6 en6 (x5.trans x6.symm) (by have := HR.out.2.2.2.1; have := HR.out.2.2.2.2.1; omega) (fun e he => by
                   have h1 : e.x ∈ exs es5 := List.mem_map.2 ⟨e, he, rfl⟩
                   rw [x5] at h1
                   have := (HR.out.2.2.1 _ h1).a
                   omega)
                 rw [l5, l6] at h
                 exact h
               refine ksm.mono ?_
               rintro e v3 ⟨rfl, b3⟩
               have H71 := Lib.hid b3
               clear b3 ksm))
          go_roundg (2 - (k + 1))
          case measure => omega
          case rel =>
            have bv1 := HR.out.2.2.2.2.2.1.trans (H51.out.2.2.2.2.mono HR.out.2.2.2.2.2.1.size)
            have bv2 := bv1.trans (H61.out.2.2.2.2.mono bv1.size)
            exact ⟨k + 1, by omega, by go_num, bv2.trans (H71.out.mono bv2.size)⟩
        · have k1 : ¬ (k : Int) < 2 := by omega
          have HQ := Lib.hid bw
          clear bb bw ht hk2
          go_wp2_with fail
          go_meet
          exact HQ.out
    case rest =>
    have HCU := Lib.hid hcut
    clear hcut
    apply_assumption
    go_wp2_with (go_at_call 9; refine (H.out.2.2.2.2.2 _ HCU.out).mono ?_; rintro e w9 ⟨rfl, b9⟩; have H9 := Lib.hid b9; clear b9)
    go_ret
    exact ⟨rfl, H9.out⟩
end Go.Proofs.YtaokegobilphnaaGreatDoor
