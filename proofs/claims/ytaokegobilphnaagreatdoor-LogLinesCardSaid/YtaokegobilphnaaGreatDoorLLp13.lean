/- log.read with log.logging).due (printed by tools/lgrr.py) -/
import Derived.Test.YtaokegobilphnaaGreatDoorLLp12
set_option linter.unusedVariables false
set_option linter.unusedSimpArgs false
namespace Go.Proofs.YtaokegobilphnaaGreatDoor
open Go Go.RowKit Go.Shelf Go.Proofs Sp Lg
set_option linter.unusedVariables false
set_option linter.unusedSimpArgs false

set_option maxRecDepth 100000 in
set_option maxHeartbeats 4000000 in
theorem gReadL_any (p : Value) (s : ByteArray) (w0 w : World) (Sx : List Nat) (J : Nat → World → Prop) (er : Nat × Int) (N : Nat) (hs : s.size ≤ 1000000) (hSx : ∀ x ∈ Sx, w0.heap.size ≤ x ∧ x < w.heap.size) (hB : Below w0.heap.size w0 w) (E : Env w0) (hN : N ≤ 1000000)
    (hdue : ∀ fb W, Below w0.heap.size w0 W → w.heap.size + 2 ≤ fb → FeedS (fb :: Sx) W.heap.size fb 0 (lines s.data.toList) W → (∀ x ∈ Sx, W.heap[x]? = w.heap[x]?) → Calls Tryz.prog 72 #[p, .agg #[.pointer (some ⟨fb, 0, none⟩)]] W (DueR Sx fb (lines s.data.toList) er N J W))
    (hJ : ∀ fb A B, J fb A → Keep [w.heap.size, w.heap.size + 1, fb] A B → J fb B) :
    Calls Tryz.prog 71 #[.string s, .func (.func 72) #[p] #[]] w (ReadPost w0 w s.data.toList er N J) := by
  have hmf : ∀ (fn : Fn) (first cap : Array Value) (w : World), (Instr.makeFunc fn first cap).run Tryz.prog w = .ok (.func fn first cap) w := fun _ _ _ _ => rfl
  have hlen : s.data.toList.length = s.size := Array.length_toList
  obtain ⟨T, hT⟩ : ∃ T, T = s.data.toList := ⟨_, rfl⟩
  have hsb : s = bs T := by rw [hT, bs_eta]
  rw [← hT] at hdue hlen ⊢
  obtain ⟨r4, hr4⟩ : ∃ b, b = w.heap.size := ⟨_, rfl⟩
  obtain ⟨r5, hr5⟩ : ∃ b, b = w.heap.size + 1 := ⟨_, rfl⟩
  obtain ⟨W1, hW1⟩ : ∃ W, W = (w.alloc (.cells #[.int .i64 0] 3)).alloc (.cells #[.int .i64 0] 29) := ⟨_, rfl⟩
  have O1 : Own w0.heap.size w0 [.blk r4 (.cells #[.int .i64 0] 3), .blk r5 (.cells #[.int .i64 0] 29)] W1 := by
    have h0 : Own w0.heap.size w0 [] w := ⟨hB, hB.size, by simp, by simp⟩
    have h := (h0.alloc (.cells #[.int .i64 0] 3)).alloc (.cells #[.int .i64 0] 29)
    rw [World.size_alloc] at h
    rw [hW1, hr4, hr5]; exact h
  have hsx1 : ∀ x ∈ Sx, W1.heap[x]? = w.heap[x]? := fun x hx => by
    rw [hW1]
    exact (Below.heap_alloc _ _ x (by rw [World.size_alloc]; have := (hSx x hx).2; omega)).trans (Below.heap_alloc _ _ x (hSx x hx).2)
  have hz1 : W1.heap.size = r4 + 2 := by rw [hW1, hr4]; simp
  have H := Lib.hid (And.intro O1 (And.intro hlen (And.intro hsb (And.intro hdue (And.intro hJ (And.intro hSx (And.intro hsx1 (And.intro hz1 (And.intro E (And.intro hr4 hr5))))))))))
  clear hT
  have h4 := O1.heap 0 rfl
  have h5 := O1.heap 1 rfl
  have a4 := (cell_of_heap h4 0).trans rfl
  have a5 := (cell_of_heap h5 0).trans rfl
  have f4 := frozen_of_heap h4 0
  have f5 := frozen_of_heap h5 0
  have z4 := heap_lt h4
  have z5 := heap_lt h5
  have hr45 : r5 = r4 + 1 := by omega
  have HR := Lib.hid hr45
  have hne : ¬ r5 = r4 := by omega
  have hne2 : ¬ r4 = r5 := by omega
  by_cases hbig : 131072 < s.size
  · have hb : decide ((131072 : Int) < (s.size : Int)) = true := decide_eq_true (by omega)
    clear O1 hlen hsb hdue hJ hSx hsx1 hz1 E h4 h5
    go_enter_defers Tryz.func71, Tryz.ntmps71
    go_upto_region 1 with fail
    rw [← hW1, ← hr4, ← hr45]
    clear hW1 hr4 hr5 hr45
    go_wp2_with fail
    have e4 : ((W1.setCell ⟨r4, 0, none⟩ (.int .i64 0)).setCell ⟨r5, 0, none⟩ (.int .i64 2)).heap[r4]? = some (.cells #[.int .i64 0] 3 (0, 0)) := heap_set_ne (heap_set (H.out.1.heap 0 rfl) 0 _) (by exact hne2) _
    have e5 : ((W1.setCell ⟨r4, 0, none⟩ (.int .i64 0)).setCell ⟨r5, 0, none⟩ (.int .i64 2)).heap[r5]? = some (.cells #[.int .i64 2] 29 (0, 0)) := heap_set (heap_set_ne (H.out.1.heap 1 rfl) (by exact hne) _) 0 _
    have hb4 : w0.heap.size ≤ r4 := H.out.1.ge 0 rfl (by simp [It.fp])
    have hb5 : w0.heap.size ≤ r5 := H.out.1.ge 1 rfl (by simp [It.fp])
    have hres : rdRes T er N = (0, 2) := by unfold rdRes; rw [if_pos (by rw [H.out.2.1]; exact hbig)]
    refine ⟨_, read_results rfl e4 e5 _ rfl rfl, ?_⟩
    exact ⟨by rw [hres]; rfl, (H.out.1.bel.setCell hb4 _).setCell hb5 _, fun h => by rw [hres] at h; cases h⟩
  · have hb : decide ((131072 : Int) < (s.size : Int)) = false := decide_eq_false (by omega)
    obtain ⟨tb, htb⟩ : ∃ b, b = W1.heap.size := ⟨_, rfl⟩
    have hTl : T.length ≤ 1000000 := by rw [hlen]; exact hs
    obtain ⟨W2, hW2⟩ : ∃ W, W = W1.alloc (.cells #[.string s] 9) := ⟨_, rfl⟩
    have kl : Calls Tryz.prog 84 #[.string s] W1 fun e w' => e = .returned (.func (.func 123) #[] #[.pointer (some ⟨tb, 0, none⟩)]) ∧ w' = W2 := by
      rw [hW2, htb]; exact gLines_any s W1
    have ht2 : W2.heap[tb]? = some (.cells #[.string (bs T)] 9 (0, 0)) := by rw [hW2, htb, ← hsb]; exact heap_alloc_new _ _
    have O2 : Own w0.heap.size w0 [.blk r4 (.cells #[.int .i64 0] 3), .blk r5 (.cells #[.int .i64 0] 29)] W2 := by rw [hW2]; exact O1.below ((Below.refl _ _).alloc (Nat.le_refl _) _)
    have hbw : Below w.heap.size w W2 := by rw [hW2, hW1]; exact (((Below.refl _ _).alloc (Nat.le_refl _) _).alloc (by simp) _).alloc (by simp; omega) _
    have Ow2 : Own w.heap.size w [.blk r4 (.cells #[.int .i64 0] 3), .blk r5 (.cells #[.int .i64 0] 29)] W2 := by
      have h := ((Own.start w).alloc (.cells #[.int .i64 0] 3)).alloc (.cells #[.int .i64 0] 29)
      rw [World.size_alloc] at h
      rw [hW2, hW1, hr5, hr4]; exact h.below ((Below.refl _ _).alloc (Nat.le_refl _) _)
    have kc := gCollect_any w W2 r4 r5 tb (.cells #[.int .i64 0] 3) (.cells #[.int .i64 0] 29) rfl rfl T Ow2 ht2 (by omega) (by omega) (by omega) hTl
    have HK := Lib.hid (And.intro kl (And.intro kc hTl))
    clear O1 hlen hsb hdue hJ hSx hsx1 hz1 E h4 h5 kl kc ht2 O2 hbw htb hW2 Ow2
    go_enter_defers Tryz.func71, Tryz.ntmps71
    go_upto_region 1 with fail
    rw [← hW1, ← hr4, ← hr45]
    clear hW1 hr4 hr5 hr45
    go_upto_region 5 with (first
      | (go_at_call 84; refine HK.out.1.mono ?_; rintro e w2 ⟨rfl, rfl⟩)
      | (go_at_call 115; refine HK.out.2.1.mono ?_; rintro e w3 ⟨LA, lc, lq, rfl, o3⟩; have H3 := Lib.hid o3; clear o3))
    obtain ⟨fb, hfb⟩ : ∃ b, b = w3.heap.size := ⟨_, rfl⟩
    obtain ⟨db, hdb⟩ : ∃ b, b = w3.heap.size + 1 := ⟨_, rfl⟩
    obtain ⟨W5, hW5⟩ : ∃ W, W = (w3.alloc (.cells #[.slice LA (lines T).length lc, .int .i64 0] 182)).alloc (.cells #[.pointer (some ⟨fb, 0, none⟩)] 184) := ⟨_, rfl⟩
    have b35 : Below w3.heap.size w3 W5 := by rw [hW5]; exact ((Below.refl _ _).alloc (Nat.le_refl _) _).alloc (by simp) _
    have hfh : W5.heap[fb]? = some (.cells #[.slice LA (lines T).length lc, .int .i64 0] 182 (0, 0)) := by rw [hW5, hfb]; exact heap_alloc' (heap_alloc_new _ _) _
    have hdh : W5.heap[db]? = some (.cells #[.pointer (some ⟨fb, 0, none⟩)] 184 (0, 0)) := by
      rw [hW5, hdb]
      have := heap_alloc_new (w3.alloc (.cells #[.slice LA (lines T).length lc, .int .i64 0] 182)) (.cells #[.pointer (some ⟨fb, 0, none⟩)] 184)
      rwa [World.size_alloc] at this
    have bw5 : Below w.heap.size w W5 := H3.out.bel.trans (b35.mono H3.out.lo)
    have b05 : Below w0.heap.size w0 W5 := hB.trans (bw5.mono hB.size)
    have hfd : FeedS (fb :: Sx) W5.heap.size fb 0 (lines T) W5 := by
      have h3 := H3.out.owns 2 rfl
      refine ⟨LA, lc, hfh, h3.rd.below b35, h3.ge, h3.cap, fun b off e => ?_⟩
      have hge := H3.out.ge 2 rfl (x := b)
      rcases h3.2 with ⟨rfl, _⟩ | ⟨g, _, rfl, rfl, hh, _⟩
      · cases e
      · cases e
        have h6 := heap_lt hh
        have h7 := b35.size
        have h8 := hge (by simp [It.fp])
        refine ⟨by omega, fun hm => ?_, by omega⟩
        rcases List.mem_cons.1 hm with h | h
        · omega
        · have := (H.out.2.2.2.2.2.1 _ h).2; omega
    have kd := H.out.2.2.2.1 fb W5 b05 (by have h6 := H3.out.lt 1 rfl (x := r5) (by simp [It.fp]); have h7 := H.out.2.2.2.2.2.2.2.2.2.2; omega) hfd (fun x hx => bw5.block x (H.out.2.2.2.2.2.1 x hx).2)
    have g4 : W5.heap[r4]? = some (.cells #[.int .i64 0] 3 (0, 0)) := (b35.block r4 (heap_lt (H3.out.heap 0 rfl))).trans (H3.out.heap 0 rfl)
    have g5 : W5.heap[r5]? = some (.cells #[.int .i64 0] 29 (0, 0)) := (b35.block r5 (heap_lt (H3.out.heap 1 rfl))).trans (H3.out.heap 1 rfl)
    have hnS : r4 ∉ fb :: Sx ∧ r5 ∉ fb :: Sx ∧ db ∉ fb :: Sx := by
      have l4 := heap_lt (H3.out.heap 0 rfl)
      have l5 := heap_lt (H3.out.heap 1 rfl)
      have e4 := H.out.2.2.2.2.2.2.2.2.2
      have lo := H3.out.lo
      refine ⟨?_, ?_, ?_⟩
      all_goals
        intro hm
        rcases List.mem_cons.1 hm with h | h
        · omega
        · have := (H.out.2.2.2.2.2.1 _ h).2; omega
    have d0 := (cell_of_heap hdh 0).trans rfl
    have zd := heap_lt hdh
    have lo3 := H3.out.lo
    have hd1 : fb + 1 = db := by omega
    rw [← hfb, hd1]
    rw [← hW5]
    have HF := Lib.hid (And.intro kd (And.intro g4 (And.intro g5 (And.intro hnS (And.intro hdh (And.intro b05 (And.intro (show w.heap.size + 2 ≤ fb by have h6 := H3.out.lt 1 rfl (x := r5) (by simp [It.fp]); have h7 := H.out.2.2.2.2.2.2.2.2.2.2; omega) (And.intro bw5 hd1))))))))
    clear kd g4 g5 hnS hdh b05 bw5 hfd hfh b35 hW5 hfb hdb lo3 hd1 a4 a5 f4 f5 z4 z5
    by_cases he : er.2 = 0
    · have kd2 : Calls Tryz.prog 72 #[p, .agg #[.pointer (some ⟨fb, 0, none⟩)]] W5 fun e w' => e = .returned (.tuple #[]) ∧ Keep (fb :: Sx) W5 w' ∧ FeedS (fb :: Sx) W5.heap.size fb N ((lines T).drop N) w' ∧ J fb w' := HF.out.1.mono fun e w' h => ⟨(h.2.1 he).1, h.1, (h.2.1 he).2.1, (h.2.1 he).2.2⟩
      have hfb0 : ∀ x ∈ fb :: Sx, w0.heap.size ≤ x := fun x hx => by
        rcases List.mem_cons.1 hx with rfl | hx
        · have := hB.size; have := HF.out.2.2.2.2.2.2.1; omega
        · exact (H.out.2.2.2.2.2.1 x hx).1
      obtain ⟨R, hR⟩ : ∃ R, R = (lines T).drop N := ⟨_, rfl⟩
      rw [← hR] at kd2
      have hRl : ∀ l ∈ R, l.length ≤ 1000000 := fun l hl => by
        have h1 := (lines_len l (List.mem_of_mem_drop (by rw [hR] at hl; exact hl))).2
        have := HK.out.2.2; omega
      have hRn : R.length ≤ 1000000 := by
        rw [hR, List.length_drop]
        have := lines_few T
        have := HK.out.2.2
        omega
      have ke : ∀ W6, Keep (fb :: Sx) W5 W6 → FeedS (fb :: Sx) W5.heap.size fb N R W6 → Calls Tryz.prog 116 #[.pointer (some ⟨fb, 0, none⟩)] W6 (EndPost fb N R W6) := fun W6 k6 f6 => by
        have b6 : Below w0.heap.size w0 W6 := HF.out.2.2.2.2.2.1.trans (k6.below HF.out.2.2.2.2.2.1.size hfb0)
        exact end_any _ _ fb N R W6 f6 hRl hRn hN (Env.below H.out.2.2.2.2.2.2.2.2.1 b6) (fun w' k => Env.below H.out.2.2.2.2.2.2.2.2.1 (b6.trans (k.below b6.size (fun x hx => by rw [List.mem_singleton.1 hx]; exact hfb0 fb (by simp)))))
      have HD := Lib.hid (And.intro kd2 (And.intro ke (And.intro hR hfb0)))
      clear kd2 ke hR hfb0 hRl hRn
      by_cases h0 : endE R = 0
      · go_upto_region 7 with (first
          | (go_at_call 72; refine HD.out.1.mono ?_; rintro e w6 ⟨rfl, k6, f6, j6⟩; have e0 := (k6.cell (b := db) (o := 0) d0 HF.out.2.2.2.1.2.2); have zd6 := Nat.lt_of_lt_of_le zd k6.size; have H6 := Lib.hid (And.intro k6 (And.intro f6 j6)); clear k6 f6 j6)
          | (go_at_call 116; refine (HD.out.2.1 w6 H6.out.1 H6.out.2.1).mono ?_; rintro e w7 ⟨k7, h7, _⟩; obtain rfl := h7 h0; have H7 := Lib.hid k7; clear k7 h7))
        have hb4 : w0.heap.size ≤ r4 := H.out.1.ge 0 rfl (by simp [It.fp])
        have hb5 : w0.heap.size ≤ r5 := H.out.1.ge 1 rfl (by simp [It.fp])
        have hfb4 : r4 ≠ fb := fun e => HF.out.2.2.2.1.1 (by simp [e])
        have hfb5 : r5 ≠ fb := fun e => HF.out.2.2.2.1.2.1 (by simp [e])
        have q4 := (H7.out.block r4 (Nat.lt_of_lt_of_le (heap_lt HF.out.2.1) H6.out.1.size) (by simpa using hfb4)).trans ((H6.out.1.block r4 (heap_lt HF.out.2.1) HF.out.2.2.2.1.1).trans HF.out.2.1)
        have q5 := (H7.out.block r5 (Nat.lt_of_lt_of_le (heap_lt HF.out.2.2.1) H6.out.1.size) (by simpa using hfb5)).trans ((H6.out.1.block r5 (heap_lt HF.out.2.2.1) HF.out.2.2.2.1.2.1).trans HF.out.2.2.1)
        have b6 : Below w0.heap.size w0 w6 := HF.out.2.2.2.2.2.1.trans (H6.out.1.below HF.out.2.2.2.2.2.1.size HD.out.2.2.2)
        have b7 : Below w0.heap.size w0 w7 := b6.trans (H7.out.below b6.size (fun x hx => by rw [List.mem_singleton.1 hx]; exact HD.out.2.2.2 fb (by simp)))
        have s4 := (cell_of_heap q4 0).trans rfl
        have s5 := (cell_of_heap q5 0).trans rfl
        have t4 := frozen_of_heap q4 0
        have t5 := frozen_of_heap q5 0
        have zz4 := heap_lt q4
        have zz5 := heap_lt q5
        have HZ := Lib.hid (And.intro q4 (And.intro q5 (And.intro b7 (And.intro hb4 hb5))))
        clear q4 q5 b6 b7 hb4 hb5
        go_wp2_with fail
        refine leaves_cons (f := 114) (args := #[.pointer (some ⟨r4, 0, none⟩), .pointer (some ⟨r5, 0, none⟩)]) (by simp) (by simp [go_sem]) ?_
        refine (catch_idle ⟨r4, 0, none⟩ ⟨r5, 0, none⟩ _).mono ?_
        rintro e u' w8 ⟨rfl, rfl, rfl⟩
        have e4 : ((w7.setCell ⟨r4, 0, none⟩ (.int .i64 0)).setCell ⟨r5, 0, none⟩ (.int .i64 0)).heap[r4]? = some (.cells #[.int .i64 0] 3 (0, 0)) := heap_set_ne (heap_set HZ.out.1 0 _) (by exact hne2) _
        have e5 : ((w7.setCell ⟨r4, 0, none⟩ (.int .i64 0)).setCell ⟨r5, 0, none⟩ (.int .i64 0)).heap[r5]? = some (.cells #[.int .i64 0] 29 (0, 0)) := heap_set (heap_set_ne HZ.out.2.1 (by exact hne) _) 0 _
        have hres : rdRes T er N = (0, 0) := by unfold rdRes; rw [if_neg (by rw [H.out.2.1]; omega), if_neg (not_not_intro he), end_close, ← HD.out.2.2.1, if_pos h0]
        have kz : Keep [w.heap.size, w.heap.size + 1, fb] w6 ((w7.setCell ⟨r4, 0, none⟩ (.int .i64 0)).setCell ⟨r5, 0, none⟩ (.int .i64 0)) := by
          rw [← H.out.2.2.2.2.2.2.2.2.2.2, ← H.out.2.2.2.2.2.2.2.2.2.1]
          exact ((H7.out.mono (S' := [r4, r5, fb]) (fun x hx => .inl (by rw [List.mem_singleton.1 hx]; simp))).setCell (p := ⟨r4, 0, none⟩) (.inl (by simp)) _).setCell (p := ⟨r5, 0, none⟩) (.inl (by simp)) _
        simp only [Leaves, settle]
        refine ⟨_, read_results rfl e4 e5 _ rfl rfl, ?_⟩
        exact ⟨by rw [hres]; rfl, (HZ.out.2.2.1.setCell HZ.out.2.2.2.1 _).setCell HZ.out.2.2.2.2 _, fun _ => ⟨fb, by have := HF.out.2.2.2.2.2.2.1; omega, H.out.2.2.2.2.1 fb w6 _ H6.out.2.2 kz⟩⟩
      · go_wp2_with (first
          | (go_at_call 72; refine HD.out.1.mono ?_; rintro e w6 ⟨rfl, k6, f6, j6⟩; have e0 := (k6.cell (b := db) (o := 0) d0 HF.out.2.2.2.1.2.2); have zd6 := Nat.lt_of_lt_of_le zd k6.size; have H6 := Lib.hid (And.intro k6 (And.intro f6 j6)); clear k6 f6 j6)
          | (go_at_call 116; refine (HD.out.2.1 w6 H6.out.1 H6.out.2.1).mono ?_; rintro e w7 ⟨k7, _, h7⟩; obtain rfl := h7 h0; unfold FailE; have H7 := Lib.hid k7; clear k7 h7))
        refine leaves_cons (f := 114) (args := #[.pointer (some ⟨r4, 0, none⟩), .pointer (some ⟨r5, 0, none⟩)]) (by simp) (by simp [go_sem]) ?_
        have hb4 : w0.heap.size ≤ r4 := H.out.1.ge 0 rfl (by simp [It.fp])
        have hb5 : w0.heap.size ≤ r5 := H.out.1.ge 1 rfl (by simp [It.fp])
        have hfb4 : r4 ≠ fb := fun e => HF.out.2.2.2.1.1 (by simp [e])
        have hfb5 : r5 ≠ fb := fun e => HF.out.2.2.2.1.2.1 (by simp [e])
        have q4 := (H7.out.block r4 (Nat.lt_of_lt_of_le (heap_lt HF.out.2.1) H6.out.1.size) (by simpa using hfb4)).trans ((H6.out.1.block r4 (heap_lt HF.out.2.1) HF.out.2.2.2.1.1).trans HF.out.2.1)
        have q5 := (H7.out.block r5 (Nat.lt_of_lt_of_le (heap_lt HF.out.2.2.1) H6.out.1.size) (by simpa using hfb5)).trans ((H6.out.1.block r5 (heap_lt HF.out.2.2.1) HF.out.2.2.2.1.2.1).trans HF.out.2.2.1)
        have b6 : Below w0.heap.size w0 w6 := HF.out.2.2.2.2.2.1.trans (H6.out.1.below HF.out.2.2.2.2.2.1.size HD.out.2.2.2)
        have b7 : Below w0.heap.size w0 w7 := b6.trans (H7.out.below b6.size (fun x hx => by rw [List.mem_singleton.1 hx]; exact HD.out.2.2.2 fb (by simp)))
        refine (catch_fail r4 r5 (N + 1 : Nat) (endE R) 0 0 [] w7 q4 q5 hne2).mono ?_
        rintro e u' w8 ⟨rfl, rfl, k8, e4, e5⟩
        have b8 : Below w0.heap.size w0 w8 := b7.trans (k8.below b7.size (fun x hx => by simp at hx; rcases hx with rfl | rfl; exact hb4; exact hb5))
        have hres : rdRes T er N = (N + 1, endE R) := by unfold rdRes; rw [if_neg (by rw [H.out.2.1]; omega), if_neg (not_not_intro he), end_close, ← HD.out.2.2.1, if_neg h0]
        simp only [Leaves, settle]
        refine ⟨_, read_results rfl e4 e5 _ rfl rfl, ?_⟩
        exact ⟨by rw [hres], b8, fun h => by rw [hres] at h; exact absurd h h0⟩
    · have kd2 : Calls Tryz.prog 72 #[p, .agg #[.pointer (some ⟨fb, 0, none⟩)]] W5 fun e w' => e = FailE er.1 er.2 ∧ Keep (fb :: Sx) W5 w' := HF.out.1.mono fun e w' h => ⟨h.2.2 he, h.1⟩
      have HD := Lib.hid kd2
      clear kd2
      go_wp2_with (go_at_call 72; refine HD.out.mono ?_; unfold FailE; rintro e w6 ⟨rfl, k6⟩; have H6 := Lib.hid k6; clear k6)
      refine leaves_cons (f := 114) (args := #[.pointer (some ⟨r4, 0, none⟩), .pointer (some ⟨r5, 0, none⟩)]) (by simp) (by simp [go_sem]) ?_
      have q4 := (H6.out.block r4 (heap_lt HF.out.2.1) HF.out.2.2.2.1.1).trans HF.out.2.1
      have q5 := (H6.out.block r5 (heap_lt HF.out.2.2.1) HF.out.2.2.2.1.2.1).trans HF.out.2.2.1
      refine (catch_fail r4 r5 er.1 er.2 0 0 [] w6 q4 q5 hne2).mono ?_
      rintro e u' w7 ⟨rfl, rfl, k7, e4, e5⟩
      have hb4 : w0.heap.size ≤ r4 := H.out.1.ge 0 rfl (by simp [It.fp])
      have hb5 : w0.heap.size ≤ r5 := H.out.1.ge 1 rfl (by simp [It.fp])
      have hres : rdRes T er N = er := by unfold rdRes; rw [if_neg (by rw [H.out.2.1]; omega), if_pos he]
      have hfb0 : ∀ x ∈ fb :: Sx, w0.heap.size ≤ x := fun x hx => by
        rcases List.mem_cons.1 hx with rfl | hx
        · have := hB.size; have := HF.out.2.2.2.2.2.2.1; omega
        · exact (H.out.2.2.2.2.2.1 x hx).1
      have kS6 : Below w0.heap.size w0 w6 := HF.out.2.2.2.2.2.1.trans (H6.out.below HF.out.2.2.2.2.2.1.size hfb0)
      have kS : Below w0.heap.size w0 w7 := kS6.trans (k7.below kS6.size (fun x hx => by simp at hx; rcases hx with rfl | rfl; exact hb4; exact hb5))
      simp only [Leaves, settle]
      refine ⟨_, read_results rfl e4 e5 _ rfl rfl, ?_⟩
      exact ⟨by rw [hres], kS, fun h => by rw [hres] at h; exact absurd h he⟩
end Go.Proofs.YtaokegobilphnaaGreatDoor
/- Plain law of layer 13: the program's reading of a log is the reference's -/
namespace Go.Proofs.YtaokegobilphnaaGreatDoor
open Go Go.RowKit Go.Shelf Go.Proofs Sp Lg
set_option linter.unusedVariables false
set_option linter.unusedSimpArgs false

theorem lineS_drop (L : List By) (N : Nat) : lineS L N = lineE (L.drop N) := by
  by_cases h : L.length ≤ N
  · unfold lineS; rw [if_pos h, List.drop_eq_nil_of_le h]; rfl
  · have hN : N < L.length := by omega
    rw [List.drop_eq_getElem_cons hN]
    unfold lineS lineE
    rw [if_neg h]
    simp [hN]
/-- k entries are read, from line i on: the entries, the line and the error, and how many lines were taken -/
noncomputable def dueE (l : List By) : Nat → Nat → List Ent → List Ent × (Nat × Int) × Nat
  | 0, i, out => (out, (0, 0), i)
  | k + 1, i, out => if lineS l i ≠ 0 then ([], (i + 1, lineS l i), 0) else match entB (body (l.getD i [])) with
    | none => ([], (i + 1, 3), 0)
    | some x => if out ≠ [] ∧ x.minute < (out.getLast?.getD default).minute then ([], (i + 1, 11), 0) else dueE l k (i + 1) (out ++ [x])
noncomputable def dueL (l : List By) : List Ent × (Nat × Int) × Nat := if lineS l 0 ≠ 0 then ([], (1, lineS l 0), 0) else match cntB (body (l.getD 0 [])) with
  | none => ([], (1, 3), 0)
  | some n => if 500 < n then ([], (1, 2), 0) else dueE l n 1 []
theorem rdE_due (l : List By) : ∀ (k i : Nat) (out : List Ent), rdE l k i out = if (dueE l k i out).2.1.2 ≠ 0 then ([], (dueE l k i out).2.1) else if (closeS l (dueE l k i out).2.2).2 = 0 then ((dueE l k i out).1, 0, 0) else ([], closeS l (dueE l k i out).2.2)
  | 0, i, out => by rw [rdE, dueE]; simp
  | k + 1, i, out => by
    rw [rdE, dueE]
    by_cases h : lineS l i ≠ 0
    · rw [if_pos h, if_pos h]; simp only; rw [if_pos h]
    · rw [if_neg h, if_neg h]
      cases hq : entB (body (l.getD i [])) with
      | none => simp
      | some x =>
        simp only
        by_cases h2 : out ≠ [] ∧ x.minute < (out.getLast?.getD default).minute
        · rw [if_pos h2, if_pos h2]; simp
        · rw [if_neg h2, if_neg h2]; exact rdE_due l k (i + 1) (out ++ [x])
theorem rdLog_due (T : By) : rdLog T = if (rdRes T (dueL (lines T)).2.1 (dueL (lines T)).2.2).2 = 0 then ((dueL (lines T)).1, 0, 0) else ([], rdRes T (dueL (lines T)).2.1 (dueL (lines T)).2.2) := by
  unfold rdLog rdRes
  by_cases h0 : 131072 < T.length
  · rw [if_pos h0, if_pos h0]; rfl
  · rw [if_neg h0, if_neg h0]
    unfold dueL
    by_cases h : lineS (lines T) 0 ≠ 0
    · rw [if_pos h, if_pos h]; simp only; rw [if_pos h, if_neg h]
    · rw [if_neg h, if_neg h]
      cases hq : cntB (body ((lines T).getD 0 [])) with
      | none => simp
      | some n =>
        simp only
        by_cases h5 : 500 < n
        · rw [if_pos h5, if_pos h5]; simp
        · rw [if_neg h5, if_neg h5, rdE_due]
          by_cases h6 : (dueE (lines T) n 1 []).2.1.2 ≠ 0
          · rw [if_pos h6, if_pos h6, if_neg h6]
          · rw [if_neg h6, if_neg h6]
theorem infoLgEnt : (Tryz.prog.info? 93).map (fun i => (i.zero, i.size, i.bytes)) = some (some (.agg #[.int .i64 0, .int .i64 0, .string ByteArray.empty, .slice none 0 0, .string ByteArray.empty]), 5, 72) := by kernel_rfl
/-- where the numbers of an entry lie -/
def arB (e : EnM) : List Nat := if e.x.args = [] then [] else match e.A with | some a => [a.block] | none => []
def arsB (L : List EnM) : List Nat := L.flatMap arB
theorem arB_keep {w w' : World} {S : List Nat} {e : EnM} (h : Rd w 1 e.A e.x.args.length (ints e.x.args)) (hk : Keep S w w') (hS : ∀ x ∈ S, x ∉ arB e) : Rd w' 1 e.A e.x.args.length (ints e.x.args) := by
  refine ⟨h.1, fun hp => ?_⟩
  obtain ⟨b, off, hA, hb, hc⟩ := h.2 hp
  refine ⟨b, off, hA, Nat.lt_of_lt_of_le hb hk.size, fun j u hu => hk.cell (hc j u hu) (fun hm => hS b hm ?_)⟩
  unfold arB
  rw [if_neg (by intro e0; rw [e0] at hp; simp at hp), hA]
  simp
theorem arB_lt {w : World} {e : EnM} (h : Rd w 1 e.A e.x.args.length (ints e.x.args)) : ∀ x ∈ arB e, x < w.heap.size := by
  intro x hx
  unfold arB at hx
  split at hx
  · cases hx
  · rename_i hne
    obtain ⟨b, off, hA, hb, hc⟩ := h.2 (List.length_pos_iff.2 hne)
    rw [hA] at hx
    simp at hx
    omega
theorem ens_gen {D : Nat} {w : World} {L : List EnM} (h : EnsOk w L) : It.holds D w (.gen (arsB L) (fun w => EnsOk w L)) := by
  refine ⟨fun x hx => ?_, fun S w' hk hS e he => arB_keep (h e he) hk (fun x hx hm => hS x hx (List.mem_flatMap.2 ⟨e, he, hm⟩))⟩
  obtain ⟨e, he, hm⟩ := List.mem_flatMap.1 hx
  exact arB_lt (h e he) x hm
theorem gen_ens {D : Nat} {w : World} {L : List EnM} (h : It.holds D w (.gen (arsB L) (fun w => EnsOk w L))) : EnsOk w L := h.2 [] w (Keep.refl _ _) (by simp)
/-- what a log's reader has made -/
def LogO (w0 : World) (lgb r4 r5 fb : Nat) (A : Option Addr) (c : Nat) (es : List EnM) (qo : List Nat) (more : List It) (wx : World) : Prop :=
  Own w0.heap.size w0 ([.blk lgb (.cells #[.slice A es.length c] 123), .any r4, .any r5, .any fb, .own 93 5 A es.length c (entsV es) qo, .gen (arsB es) (fun w => EnsOk w es)] ++ more) wx
def LogJ (w0 : World) (lgb r4 r5 : Nat) (out : List Ent) (fb : Nat) (wx : World) : Prop :=
  ∃ A c es qo, exs es = out ∧ LogO w0 lgb r4 r5 fb A c es qo [] wx
end Go.Proofs.YtaokegobilphnaaGreatDoor
