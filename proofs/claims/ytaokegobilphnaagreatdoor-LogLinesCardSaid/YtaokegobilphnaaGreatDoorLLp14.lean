/- (*log.logging).due -/
import Derived.Test.YtaokegobilphnaaGreatDoorLLp13
import Derived.Deep.RegionHeld3
import Derived.Deep.RegionLaw
import Derived.BigRegion
import Derived.BigQuiet
import Derived.StillTailTactics
import Derived.Test.YtaokegobilphnaaGreatDoorLLp2
set_option linter.unusedVariables false
set_option linter.unusedSimpArgs false
namespace Go.Proofs.YtaokegobilphnaaGreatDoor
open Go Go.RowKit Go.Shelf Go.Proofs Sp Lg
set_option linter.unusedVariables false
set_option linter.unusedSimpArgs false

set_option linter.unusedVariables false
def DgV (u : World) (lgb j c : Nat) (A : Option Addr) (es : List Value) (qo : List Nat) (xm xp : Int) (xV : ByteArray) (xA : Option Addr) (xn xc : Nat) (xN : ByteArray) (s : ApS) : Nat → Value → Prop
  | 0, v => v = .pointer (some ⟨lgb, 0, none⟩)
  | 1, v => v = .pointer (some ⟨lgb, 0, none⟩)
  | 2, v => v = .pointer (some ⟨lgb, 0, none⟩)
  | 3, v => v = .pointer (some ⟨lgb, 0, none⟩)
  | 4, v => v = .slice A j c
  | 5, v => v = .agg #[.int .i64 xm, .int .i64 xp, .string xV, .slice xA xn xc, .string xN]
  | 6, v => v = .slice (some ⟨s.bs, 0, none⟩) 1 1
  | 7, v => v = .slice s.A (j + 1) s.c
  | 8, v => v = .pointer (some ⟨lgb, 0, none⟩)
  | 9, v => v = .pointer (some ⟨lgb, 0, none⟩)
  | _, _ => True
def DgW (u : World) (lgb j c : Nat) (A : Option Addr) (es : List Value) (qo : List Nat) (xm xp : Int) (xV : ByteArray) (xA : Option Addr) (xn xc : Nat) (xN : ByteArray) (s : ApS) (l : Nat → Bool) (w : World) : Prop := Keep (lgb :: qo) u w ∧ w.heap[lgb]? = some (.cells #[if l 10 then .slice s.A (j + 1) s.c else .slice A j c] 123 (0, 0)) ∧ (l 7 = false → OwnS w 93 5 A j c es qo) ∧ (l 7 = true → OwnS w 93 5 s.A (j + 1) s.c (es ++ [Value.int .i64 xm, Value.int .i64 xp, Value.string xV, Value.slice xA xn xc, Value.string xN]) [s.g] ∧ (s.g ∈ qo ∨ u.heap.size ≤ s.g)) ∧ (l 6 = true → l 7 = false → u.heap.size ≤ s.bs ∧ w.heap[s.bs]? = some (.cells #[Value.int .i64 xm, Value.int .i64 xp, Value.string xV, Value.slice xA xn xc, Value.string xN] 93 (0, 0)))
structure DuS (w0 W : World) (L : List By) (lgb r4 r5 fb db : Nat) (A : Option Addr) (c : Nat) (es : List EnM) (qo : List Nat) (wr : World) : Prop where
  o : LogO w0 lgb r4 r5 fb A c es qo [.blk db (.cells #[.pointer (some ⟨fb, 0, none⟩)] 184)] wr
  f : FeedS (fb :: [lgb]) W.heap.size fb (es.length + 1) (L.drop (es.length + 1)) wr
  k : Keep (fb :: [lgb]) W wr
  q : ∀ x ∈ qo, W.heap.size ≤ x
theorem due_fail {W w' : World} {L : List By} {lgb fb ln : Nat} {e : Int} {J : Nat → World → Prop} (hd : (dueL L).2.1 = (ln, e)) (he : e ≠ 0) (hk : Keep (fb :: [lgb]) W w') : DueR [lgb] fb L (dueL L).2.1 (dueL L).2.2 J W (FailE ln e) w' :=
  ⟨hk, fun h => absurd (by rw [hd] at h; exact h) he, fun _ => by rw [hd]⟩
set_option maxRecDepth 100000 in
set_option maxHeartbeats 4000000 in
theorem due_any (L : List By) (lgb r4 r5 fb : Nat) (w0 W : World) (hl : ∀ l ∈ L, l.length ≤ 1000000) (hL : L.length ≤ 900000) (hO : LogO w0 lgb r4 r5 fb none 0 [] [] [] W) (hf : FeedS (fb :: [lgb]) W.heap.size fb 0 L W) (E : Env w0) :
    Calls Tryz.prog 72 #[.pointer (some ⟨lgb, 0, none⟩), .agg #[.pointer (some ⟨fb, 0, none⟩)]] W (DueR [lgb] fb L (dueL L).2.1 (dueL L).2.2 (LogJ w0 lgb r4 r5 (dueL L).1) W) := by
  obtain ⟨iE, hE0, hE1, hE2, hE3⟩ := info_parts infoLgEnt
  obtain ⟨db, hdb⟩ : ∃ b, b = W.heap.size := ⟨_, rfl⟩
  obtain ⟨W1, hW1⟩ : ∃ w, w = W.alloc (.cells #[.pointer (some ⟨fb, 0, none⟩)] 184) := ⟨_, rfl⟩
  have bW1 : Below W.heap.size W W1 := by rw [hW1]; exact (Below.refl _ _).alloc (Nat.le_refl _) _
  have O1 : LogO w0 lgb r4 r5 fb none 0 [] [] [.blk db (.cells #[.pointer (some ⟨fb, 0, none⟩)] 184)] W1 := by
    have := Own.alloc hO (.cells #[.pointer (some ⟨fb, 0, none⟩)] 184)
    rw [hW1, hdb]; exact this
  have f1 := hf.keep bW1
  have hfb0 : w0.heap.size ≤ fb := O1.ge 3 rfl (by simp [It.fp])
  have hEk : ∀ wx, Below w0.heap.size w0 wx → ∀ w', Keep [fb] wx w' → Env w' := fun wx hb w' k => Env.below E (hb.trans (k.below hb.size (fun x hx => by rw [List.mem_singleton.1 hx]; exact hfb0)))
  have kn := lgNext_any _ _ fb 0 L W1 f1 hl (by omega) (by omega) (Env.below E O1.bel) (hEk W1 O1.bel)
  have hd := (cell_of_heap (O1.heap 6 rfl) 0).trans rfl
  have zd := heap_lt (O1.heap 6 rfl)
  obtain ⟨e1, he1⟩ : ∃ e, e = lineE L := ⟨_, rfl⟩
  have hdl : dueL L = if e1 ≠ 0 then ([], (1, e1), 0) else match cntB (body (L.headD [])) with | none => ([], (1, 3), 0) | some n => if 500 < n then ([], (1, 2), 0) else dueE L n 1 [] := by
    unfold dueL
    rw [lineS_drop, List.drop_zero, ← he1]
    cases L <;> rfl
  unfold LgNxPost at kn
  rw [← he1] at kn
  have H := Lib.hid (And.intro O1 (And.intro kn (And.intro hdl (And.intro hEk (And.intro bW1 (And.intro hl (And.intro E hdb)))))))
  clear O1 kn hdl hEk bW1 hl E hf f1 hO
  by_cases h0 : e1 = 0
  · have kn2 : Calls Tryz.prog 117 #[.pointer (some ⟨fb, 0, none⟩)] W1 fun e w' => e = .returned (.string (bs (body (L.headD [])))) ∧ FeedS (fb :: [lgb]) W.heap.size fb 1 L.tail w' ∧ Keep [fb] W1 w' := H.out.2.1.mono fun e w' h => by
      obtain ⟨k1, k2⟩ := h
      rw [if_pos h0] at k2
      exact ⟨k2.1, k2.2, k1⟩
    have hdl2 := H.out.2.2.1
    rw [if_neg (not_not_intro h0)] at hdl2
    obtain ⟨B, hB⟩ : ∃ B, B = body (L.headD []) := ⟨_, rfl⟩
    rw [← hB] at kn2 hdl2
    have hBl : B.length ≤ 1000000 := by
      rw [hB]
      cases L with
      | nil => simp [body]
      | cons l r => have := H.out.2.2.2.2.2.1 l (by simp); simp [body]; omega
    have H2 := Lib.hid (And.intro kn2 (And.intro hdl2 (And.intro hB hBl)))
    clear kn2 hdl2 hB hBl he1
    cases hc : cntB B with
    | none =>
      have hdl3 := H2.out.2.1
      rw [hc] at hdl3
      simp only at hdl3
      have HD := Lib.hid (And.intro hdl3 hc)
      clear hdl3 hc
      go_enter Tryz.func72, Tryz.ntmps72
      go_upto_region 1 with fail
      rw [← hW1, ← hdb]
      clear hW1 hdb
      go_wp2_with (first
        | (go_at_call 117; refine H2.out.1.mono ?_; rintro e w2 ⟨rfl, f2, k2⟩; have n2 := f2.num; have zz2 := f2.lt; have d2 := (k2.cell (b := db) (o := 0) hd (by have := H.out.1.ne 6 3 rfl rfl (by decide) (x := db) (y := fb) (by simp [It.fp]) (by simp [It.fp]); simpa using this)); have zd2 := Nat.lt_of_lt_of_le zd k2.size; have HN := Lib.hid (And.intro f2 k2); clear f2 k2)
        | (go_at_call 85; refine (gCount_any (bs B) w2 (by rw [bs_size]; exact H2.out.2.2.2) (H.out.2.2.2.1 W1 H.out.1.bel w2 HN.out.2)).mono ?_; rw [show (bs B).data.toList = B from rfl]; rintro e w3 ⟨v, rfl, b3, hv3⟩; have n3 := (b3.cell (p := ⟨fb, 1, none⟩) zz2).trans n2; have d3 := (b3.cell (p := ⟨db, 0, none⟩) zd2).trans d2; have zd3 := Nat.lt_of_lt_of_le zd2 b3.size; have HC := Lib.hid (And.intro b3 hv3); clear b3 hv3; rw [HD.out.2])
        | (go_at_call 118; refine (want_no fb _ 3 w3 n3).mono ?_; unfold FailE; rintro r w9 ⟨rfl, rfl⟩))
      have kk : Keep (fb :: [lgb]) W w9 := ((Keep.of_below (S := fb :: [lgb]) H.out.2.2.2.2.1).trans HN.out.2 (fun x hx => .inl (by simp at hx; simp [hx]))).trans (Keep.of_below (S := []) HC.out.1) (by simp)
      exact ⟨rfl, due_fail (ln := 1) (e := 3) (by rw [HD.out.1]) (by decide) kk⟩
    | some n =>
      by_cases h5 : 500 < n
      · have hdl3 := H2.out.2.1
        rw [hc] at hdl3
        simp only at hdl3
        rw [if_pos h5] at hdl3
        have HD := Lib.hid (And.intro hdl3 hc)
        clear hdl3 hc
        have g5 : decide ((n : Int) ≤ 500) = false := decide_eq_false (by omega)
        go_enter Tryz.func72, Tryz.ntmps72
        go_upto_region 1 with fail
        rw [← hW1, ← hdb]
        clear hW1 hdb
        go_wp2_with (first
          | (go_at_call 117; refine H2.out.1.mono ?_; rintro e w2 ⟨rfl, f2, k2⟩; have n2 := f2.num; have zz2 := f2.lt; have d2 := (k2.cell (b := db) (o := 0) hd (by have := H.out.1.ne 6 3 rfl rfl (by decide) (x := db) (y := fb) (by simp [It.fp]) (by simp [It.fp]); simpa using this)); have zd2 := Nat.lt_of_lt_of_le zd k2.size; have HN := Lib.hid (And.intro f2 k2); clear f2 k2)
          | ((go_at_call 85; refine (gCount_any (bs B) w2 (by rw [bs_size]; exact H2.out.2.2.2) (H.out.2.2.2.1 W1 H.out.1.bel w2 HN.out.2)).mono ?_; rw [show (bs B).data.toList = B from rfl]; rintro e w3 ⟨v, rfl, b3, hv3⟩; have n3 := (b3.cell (p := ⟨fb, 1, none⟩) zz2).trans n2; have d3 := (b3.cell (p := ⟨db, 0, none⟩) zd2).trans d2; have zd3 := Nat.lt_of_lt_of_le zd2 b3.size; have HC := Lib.hid (And.intro b3 hv3); clear b3 hv3; rw [HD.out.2]); obtain rfl : v = n := HC.out.2 n HD.out.2)
          | (go_at_call 118; refine (want_yes _ 3 w3).mono ?_; rintro r w8 ⟨rfl, rfl⟩)
          | (go_at_call 118; refine (want_no fb _ 2 w8 n3).mono ?_; unfold FailE; rintro r w9 ⟨rfl, rfl⟩))
        have kk : Keep (fb :: [lgb]) W w9 := ((Keep.of_below (S := fb :: [lgb]) H.out.2.2.2.2.1).trans HN.out.2 (fun x hx => .inl (by simp at hx; simp [hx]))).trans (Keep.of_below (S := []) HC.out.1) (by simp)
        exact ⟨rfl, due_fail (ln := 1) (e := 2) (by rw [HD.out.1]) (by decide) kk⟩
      · have hdl3 := H2.out.2.1
        rw [hc] at hdl3
        simp only at hdl3
        rw [if_neg h5] at hdl3
        have HD := Lib.hid (And.intro hdl3 hc)
        clear hdl3 hc
        have g5 : decide ((n : Int) ≤ 500) = true := decide_eq_true (by omega)
        go_enter Tryz.func72, Tryz.ntmps72
        go_upto_region 1 with fail
        rw [← hW1, ← hdb]
        clear hW1 hdb
        go_wp2_with (first
          | (go_at_call 117; refine H2.out.1.mono ?_; rintro e w2 ⟨rfl, f2, k2⟩; have n2 := f2.num; have zz2 := f2.lt; have d2 := (k2.cell (b := db) (o := 0) hd (by have := H.out.1.ne 6 3 rfl rfl (by decide) (x := db) (y := fb) (by simp [It.fp]) (by simp [It.fp]); simpa using this)); have zd2 := Nat.lt_of_lt_of_le zd k2.size; have HN := Lib.hid (And.intro f2 k2); clear f2 k2)
          | ((go_at_call 85; refine (gCount_any (bs B) w2 (by rw [bs_size]; exact H2.out.2.2.2) (H.out.2.2.2.1 W1 H.out.1.bel w2 HN.out.2)).mono ?_; rw [show (bs B).data.toList = B from rfl]; rintro e w3 ⟨v, rfl, b3, hv3⟩; have n3 := (b3.cell (p := ⟨fb, 1, none⟩) zz2).trans n2; have d3 := (b3.cell (p := ⟨db, 0, none⟩) zd2).trans d2; have zd3 := Nat.lt_of_lt_of_le zd2 b3.size; have HC := Lib.hid (And.intro b3 hv3); clear b3 hv3; rw [HD.out.2]); obtain rfl : v = n := HC.out.2 n HD.out.2)
          | (go_at_call 118; refine (want_yes _ 3 w3).mono ?_; rintro r w8 ⟨rfl, rfl⟩)
          | (go_at_call 118; refine (want_yes _ 2 w8).mono ?_; rintro r w7 ⟨rfl, rfl⟩))
        have kW7 : Keep (fb :: [lgb]) W w7 := ((Keep.of_below (S := fb :: [lgb]) H.out.2.2.2.2.1).trans HN.out.2 (fun x hx => .inl (by simp at hx; simp [hx]))).trans (Keep.of_below (S := []) HC.out.1) (by simp)
        have oW7 : LogO w0 lgb r4 r5 fb none 0 [] [] [.blk db (.cells #[.pointer (some ⟨fb, 0, none⟩)] 184)] w7 :=
          (Own.keepAny H.out.1 HN.out.2 (fun x hx => .inl ⟨3, by rw [List.mem_singleton.1 hx]; rfl⟩)).below HC.out.1
        have S0 : DuS w0 W L lgb r4 r5 fb db none 0 [] [] w7 := ⟨oW7, by have := HN.out.1.keep HC.out.1; simpa using this, kW7, by simp⟩
        have hv : v ≤ 500 := by omega
        have HS0 := Lib.hid S0
        clear S0 kW7 oW7 d2 d3 n2 n3 zz2 zd2 zd3
        go_loopg [26] v (fun g i wr => ∃ (es : List EnM) (A : Option Addr) (c : Nat) (qo : List Nat), g + es.length = v ∧ i = .int .i64 es.length ∧ dueL L = dueE L (v - es.length) (es.length + 1) (exs es) ∧ DuS w0 W L lgb r4 r5 fb db A c es qo wr)
        case atStart => exact ⟨[], none, 0, [], by simp, rfl, by rw [HD.out.1]; rfl, HS0.out⟩
        case round =>
          obtain ⟨es, A, c, qo, hg, rfl, hdu, S⟩ := hrel
          obtain ⟨j, hj⟩ : ∃ j, j = es.length := ⟨_, rfl⟩
          rw [← hj] at hg hdu
          rw [← hj]
          have HJ := Lib.hid hj
          by_cases hlt : j < v
          · have hvj : v - j = (v - j - 1) + 1 := by omega
            rw [hvj, dueE] at hdu
            obtain ⟨R, hR⟩ : ∃ R, R = L.drop (j + 1) := ⟨_, rfl⟩
            have fS := S.f
            rw [← hj, ← hR] at fS
            clear hj
            have bS := S.o.bel
            have hRl : ∀ l ∈ R, l.length ≤ 1000000 := fun l hl => H.out.2.2.2.2.2.1 l (List.mem_of_mem_drop (by rw [hR] at hl; exact hl))
            have hRn : R.length ≤ 1000000 := by rw [hR, List.length_drop]; omega
            have kn := lgNext_any _ _ fb (j + 1) R wr fS hRl hRn (by omega) (Env.below H.out.2.2.2.2.2.2.1 bS) (H.out.2.2.2.1 wr bS)
            obtain ⟨e2, he2⟩ : ∃ e, e = lineE R := ⟨_, rfl⟩
            unfold LgNxPost at kn
            rw [← he2] at kn
            rw [lineS_drop, ← hR, ← he2] at hdu
            have d1 := (cell_of_heap (S.o.heap 6 rfl) 0).trans rfl
            have y1 := heap_lt (S.o.heap 6 rfl)
            have hdf : db ∉ [fb] := by have := S.o.ne 6 3 rfl rfl (by decide) (x := db) (y := fb) (by simp [It.fp]) (by simp [It.fp]); simpa using this
            by_cases h9 : e2 = 0
            · rw [if_neg (not_not_intro h9)] at hdu
              have kn2 : Calls Tryz.prog 117 #[.pointer (some ⟨fb, 0, none⟩)] wr fun e w' => e = .returned (.string (bs (body (R.headD [])))) ∧ FeedS (fb :: [lgb]) W.heap.size fb (j + 1 + 1) R.tail w' ∧ Keep [fb] wr w' := kn.mono fun e w' h => by
                obtain ⟨k1, k2⟩ := h
                rw [if_pos h9] at k2
                exact ⟨k2.1, k2.2, k1⟩
              obtain ⟨X, hX⟩ : ∃ X, X = body (R.headD []) := ⟨_, rfl⟩
              have hXl : X.length ≤ 1000000 := by
                rw [hX]
                cases hR2 : R with
                | nil => simp [body]
                | cons l r => have := hRl l (by rw [hR2]; simp); simp [body]; omega
              have hgX : body (L.getD (j + 1) []) = X := by
                rw [hX, hR]
                congr 1
                by_cases hlj : j + 1 < L.length
                · rw [List.drop_eq_getElem_cons hlj]; simp [hlj]
                · rw [List.drop_eq_nil_of_le (by omega), List.getD_eq_getElem?_getD, List.getElem?_eq_none (by omega)]; rfl
              rw [hgX] at hdu
              rw [← hX] at kn2
              cases hq : entB X with
              | none =>
                rw [hq] at hdu
                simp only at hdu
                have kE : ∀ u2, Keep [fb] wr u2 → Calls Tryz.prog 86 #[.string (bs X)] u2 fun e w' => ∃ (xm xp : Int) (xV : ByteArray) (xA : Option Addr) (xn xc : Nat) (xN : ByteArray), e = .returned (.tuple #[.agg #[.int .i64 xm, .int .i64 xp, .string xV, .slice xA xn xc, .string xN], .bool false]) ∧ Below u2.heap.size u2 w' := fun u2 hk => by
                  refine (gEntry_any (bs X) u2 (by rw [bs_size]; exact hXl) (H.out.2.2.2.1 wr bS u2 hk)).mono ?_
                  rw [show (bs X).data.toList = X from rfl]
                  rintro e w' ⟨x, xA, xc, rfl, hb, _⟩
                  exact ⟨x.minute, x.ship, bs x.verb, xA, x.args.length, xc, bs x.note, by rw [hq]; rfl, hb⟩
                have HR := Lib.hid (And.intro S (And.intro kn2 (And.intro hdf (And.intro kE hdu))))
                clear S kn kn2 hdf kE hdu hq hX hgX hXl hRl hRn fS bS hR he2
                go_upto_region 8 with (first
                  | (go_at_call 117; refine HR.out.2.1.mono ?_; rintro e u2 ⟨rfl, f2, k2⟩; have m2 := f2.num; have y2 := f2.lt; have c2 := (k2.cell (b := db) (o := 0) d1 HR.out.2.2.1); have yd2 := Nat.lt_of_lt_of_le y1 k2.size; have HN2 := Lib.hid (And.intro f2 k2); clear f2 k2)
                  | (go_at_call 86; refine (HR.out.2.2.2.1 u2 HN2.out.2).mono ?_; rintro e u3 ⟨xm, xp, xV, xA, xn, xc, xN, rfl, b3⟩; have m3 := (b3.cell (p := ⟨fb, 1, none⟩) y2).trans m2; have c3 := (b3.cell (p := ⟨db, 0, none⟩) yd2).trans c2; have yd3 := Nat.lt_of_lt_of_le yd2 b3.size; have y3 := Nat.lt_of_lt_of_le y2 b3.size; have HE3 := Lib.hid b3; clear b3))
                obtain ⟨u4, hu4⟩ : ∃ u, u = u3.alloc (.cells #[.int .i64 xm, .int .i64 xp, .string xV, .slice xA xn xc, .string xN] 93) := ⟨_, rfl⟩
                have b4 : Below u3.heap.size u3 u4 := by rw [hu4]; exact (Below.refl _ _).alloc (Nat.le_refl _) _
                have m4 := (b4.cell (p := ⟨fb, 1, none⟩) y3).trans m3
                have c4 := (b4.cell (p := ⟨db, 0, none⟩) yd3).trans c3
                have yd4 := Nat.lt_of_lt_of_le yd3 b4.size
                rw [← hu4]
                have H4 := Lib.hid b4
                clear hu4 b4 m3 c3 m2 c2
                go_wp2_with ((go_at_call 118; refine (want_no fb _ 3 u4 m4).mono ?_; unfold FailE; rintro r w9 ⟨rfl, rfl⟩))
                have kk : Keep (fb :: [lgb]) W w9 := ((HR.out.1.k.trans HN2.out.2 (fun x hx => .inl (by simp at hx; simp [hx]))).trans (Keep.of_below (S := []) HE3.out) (by simp)).trans (Keep.of_below (S := []) H4.out) (by simp)
                exact ⟨rfl, due_fail (ln := j + 1 + 1) (e := 3) (by rw [HR.out.2.2.2.2]) (by decide) kk⟩
              | some x =>
                rw [hq] at hdu
                simp only at hdu
                have hxE := entB_some.1 hq
                have hxO := hxE.2
                obtain ⟨xm, hxm⟩ : ∃ m, m = x.minute := ⟨_, rfl⟩
                obtain ⟨xp, hxp⟩ : ∃ m, m = x.ship := ⟨_, rfl⟩
                obtain ⟨xV, hxV⟩ : ∃ m, m = bs x.verb := ⟨_, rfl⟩
                obtain ⟨xN, hxN⟩ : ∃ m, m = bs x.note := ⟨_, rfl⟩
                obtain ⟨xn, hxn⟩ : ∃ m, m = x.args.length := ⟨_, rfl⟩
                have hen : ∀ A c, entC x A c = #[.int .i64 xm, .int .i64 xp, .string xV, .slice A xn c, .string xN] := fun A c => by unfold entC; rw [hxm, hxp, hxV, hxN, hxn]
                have kE : ∀ u2, Keep [fb] wr u2 → Calls Tryz.prog 86 #[.string (bs X)] u2 fun e w' => ∃ (xA : Option Addr) (xc : Nat), e = .returned (.tuple #[.agg #[.int .i64 xm, .int .i64 xp, .string xV, .slice xA xn xc, .string xN], .bool true]) ∧ Below u2.heap.size u2 w' ∧ Rd w' 1 xA x.args.length (ints x.args) ∧ ∀ b off, xA = some ⟨b, off, none⟩ → u2.heap.size ≤ b := fun u2 hk => by
                  refine (gEntry_any (bs X) u2 (by rw [bs_size]; exact hXl) (H.out.2.2.2.1 wr bS u2 hk)).mono ?_
                  rw [show (bs X).data.toList = X from rfl]
                  rintro e w' ⟨x', xA, xc, rfl, hb, hy⟩
                  obtain ⟨rfl, hy2, hy3⟩ := hy x hq
                  exact ⟨xA, xc, by rw [hq, hen]; rfl, hb, hy2, hy3⟩
                have HR := Lib.hid (And.intro S (And.intro kn2 (And.intro hdf (And.intro kE (And.intro hdu (And.intro hxm (And.intro hen (And.intro hxn hR))))))))
                clear S kn kn2 hdf kE hdu hq hX hgX hXl hRl hRn fS bS hR he2 hxE hxO hxm hxp hxV hxN hxn hen
                go_upto_region 8 with (first
                  | (go_at_call 117; refine HR.out.2.1.mono ?_; rintro e u2 ⟨rfl, f2, k2⟩; have m2 := f2.num; have y2 := f2.lt; have c2 := (k2.cell (b := db) (o := 0) d1 HR.out.2.2.1); have yd2 := Nat.lt_of_lt_of_le y1 k2.size; have HN2 := Lib.hid (And.intro f2 k2); clear f2 k2)
                  | (go_at_call 86; refine (HR.out.2.2.2.1 u2 HN2.out.2).mono ?_; rintro e u3 ⟨xA, xc, rfl, b3, rx3, gx3⟩; have m3 := (b3.cell (p := ⟨fb, 1, none⟩) y2).trans m2; have c3 := (b3.cell (p := ⟨db, 0, none⟩) yd2).trans c2; have yd3 := Nat.lt_of_lt_of_le yd2 b3.size; have y3 := Nat.lt_of_lt_of_le y2 b3.size; have HE3 := Lib.hid (And.intro b3 (And.intro rx3 gx3)); clear b3 rx3 gx3))
                obtain ⟨u4, hu4⟩ : ∃ u, u = u3.alloc (.cells #[.int .i64 xm, .int .i64 xp, .string xV, .slice xA xn xc, .string xN] 93) := ⟨_, rfl⟩
                obtain ⟨xb, hxb⟩ : ∃ b, b = u3.heap.size := ⟨_, rfl⟩
                have b4 : Below u3.heap.size u3 u4 := by rw [hu4]; exact (Below.refl _ _).alloc (Nat.le_refl _) _
                have m4 := (b4.cell (p := ⟨fb, 1, none⟩) y3).trans m3
                have c4 := (b4.cell (p := ⟨db, 0, none⟩) yd3).trans c3
                have yd4 := Nat.lt_of_lt_of_le yd3 b4.size
                have x4 : u4.heap[xb]? = some (.cells #[.int .i64 xm, .int .i64 xp, .string xV, .slice xA xn xc, .string xN] 93 (0, 0)) := by rw [hu4, hxb]; exact heap_alloc_new _ _
                have o2 : LogO w0 lgb r4 r5 fb A c es qo [.blk db (.cells #[.pointer (some ⟨fb, 0, none⟩)] 184)] u2 := Own.keepAny HR.out.1.o HN2.out.2 (fun x hx => .inl ⟨3, by rw [List.mem_singleton.1 hx]; rfl⟩)
                have o3 := Own.upd o2 5 rfl (i' := .gen (arsB (es ++ [⟨x, xA, xc⟩])) (fun w => EnsOk w (es ++ [⟨x, xA, xc⟩]))) (Keep.of_below HE3.out.1) (ens_gen (fun e he => by
                    rcases List.mem_append.1 he with he | he
                    · exact (gen_ens (o2.get 5 rfl) e he).below HE3.out.1
                    · rw [List.mem_singleton.1 he]; exact HE3.out.2.1)) (fun b hb => by
                    simp only [It.fp] at hb
                    unfold arsB at hb
                    rw [List.flatMap_append] at hb
                    rcases List.mem_append.1 hb with hb | hb
                    · exact .inl hb
                    · right
                      simp only [List.flatMap_cons, List.flatMap_nil, List.append_nil] at hb
                      unfold arB at hb
                      split at hb
                      · cases hb
                      · obtain ⟨a, off, hA, _⟩ := HE3.out.2.1.2 (List.length_pos_iff.2 (by assumption))
                        rw [hA] at hb
                        simp at hb
                        subst hb
                        exact HE3.out.2.2 _ off hA)
                have o4 := o3.below b4
                have f4 := (HN2.out.1.keep HE3.out.1).keep b4
                have k4 : Keep (fb :: [lgb]) W u4 := ((HR.out.1.k.trans HN2.out.2 (fun x hx => .inl (by simp at hx; simp [hx]))).trans (Keep.of_below (S := []) HE3.out.1) (by simp)).trans (Keep.of_below (S := []) b4) (by simp)
                have hl4 := o4.heap 0 rfl
                have l0 := (cell_of_heap hl4 0).trans rfl
                have zl4 := heap_lt hl4
                have p0 := (cell_of_heap x4 0).trans rfl
                have zx4 := heap_lt x4
                have hxb3 : u3.heap.size ≤ xb := by omega
                have HXQ : Hid (xb ≠ lgb ∧ xb ∉ qo) := Lib.hid (by
                  have h1 := o3.lt 0 rfl (x := lgb) (by simp [It.fp])
                  exact ⟨by omega, fun hm => by have := o3.lt 4 rfl (x := xb) hm; omega⟩)
                rw [← hu4, ← hxb]
                have H4 := Lib.hid (And.intro o4 (And.intro f4 (And.intro k4 (And.intro x4 hl4))))
                clear hu4 hxb b4 m3 c3 m2 c2 o2 o3 o4 f4 k4 x4 hl4
                go_upto_region 9 with ((go_at_call 118; refine (want_yes _ 3 u4).mono ?_; rintro r u5 ⟨rfl, rfl⟩))
                go_cut [] from 40 to 58 (fun wx => dueL L = dueE L (v - j - 1) (j + 1 + 1) (exs es ++ [x]) ∧ ∃ nq, wx = u5.drewN nq)
                case first =>
                  by_cases hj0 : j = 0
                  · have hel : exs es = [] := by rw [List.length_eq_zero_iff.1 (HJ.out.symm.trans hj0)]; rfl
                    have hb0 : ((j : Int) == 0) = true := by rw [hj0]; rfl
                    have hdu := HR.out.2.2.2.2.1
                    rw [if_neg (by rintro ⟨h, _⟩; exact h hel)] at hdu
                    have HU := Lib.hid hdu
                    clear hdu hel hj0
                    go_quiet ((go_at_call 118; exact Calls.quiet_of_same (want_yes _ 11 _)))
                    go_wp2_with fail
                    go_meet
                    exact ⟨HU.out, nq, rfl⟩
                  · obtain ⟨jp, hjp⟩ : ∃ k, k + 1 = j := ⟨j - 1, by omega⟩
                    have hjl : jp < es.length := by have := HJ.out; omega
                    have hjj : (j : Int) - 1 = (jp : Int) := by omega
                    have hb0 : ((j : Int) == 0) = false := by rw [beq_eq_false_iff_ne]; omega
                    obtain ⟨g, cur, rfl, _, hh, _, _, _, hcu⟩ := (H4.out.1.owns 4 rfl).2.resolve_left (by rintro ⟨_, h, _⟩; omega)
                    obtain ⟨pm, hpm⟩ : ∃ m, m = (es[jp]'hjl).x.minute := ⟨_, rfl⟩
                    have q0 : u5.cell? ⟨g, jp * 5, none⟩ = some (.int .i64 pm) := (cell_of_heap hh _).trans (hcu _ _ (by
                      have := flatE_get hjl (j := 0) (by decide)
                      unfold entsV; rw [Nat.add_zero] at this; rw [this, hpm]; rfl))
                    have zg := heap_lt hh
                    have hlast : ((exs es).getLast?.getD default).minute = pm := by
                      rw [List.getLast?_eq_getElem?]
                      have e : (exs es).length - 1 = jp := by unfold exs; rw [List.length_map, ← HJ.out, ← hjp]; rfl
                      rw [e]
                      unfold exs
                      rw [List.getElem?_map, List.getElem?_eq_getElem hjl, hpm]; rfl
                    have hne : exs es ≠ [] := fun e => by have := congrArg List.length e; unfold exs at this; rw [List.length_map, ← HJ.out, ← hjp] at this; simp at this
                    have hdu := HR.out.2.2.2.2.1
                    rw [hlast, ← HR.out.2.2.2.2.2.1] at hdu
                    have hjlt : jp < j := by omega
                    have hjlt2 : (jp : Int) < (j : Int) := by omega
                    have hwj : IntKind.i64.wrap (jp : Int) = (jp : Int) := IntWalk.i64_in _ (by omega)
                    have hjlt3 : (0 : Int) ≤ (jp : Int) := by omega
                    have HU := Lib.hid (And.intro hdu hne)
                    clear hdu hne hlast hpm hcu hh hjp hj0
                    rw [← HJ.out] at l0
                    by_cases hlt2 : xm < pm
                    · have g1 : decide (pm ≤ xm) = false := decide_eq_false (by omega)
                      have hdu2 := HU.out.1
                      rw [if_pos ⟨HU.out.2, hlt2⟩] at hdu2
                      have HV := Lib.hid hdu2
                      clear hdu2
                      obtain ⟨ud, hud⟩ : ∃ u : World, u = { u5 with drawn := u5.drawn + 1 } := ⟨_, rfl⟩
                      have bud : Below u5.heap.size u5 ud := by rw [hud]; exact (Below.refl _ u5).drew
                      refine wp_region_still_tail 18 (by kernel_rfl) (by kernel_rfl) ?_
                      simp only [List.take_succ_cons, List.take_zero, List.drop_succ_cons, List.drop_zero]
                      rw [← hud]
                      have c4u := (bud.cell (p := ⟨db, 0, none⟩) yd4).trans c4
                      have p0u := (bud.cell (p := ⟨xb, 0, none⟩) zx4).trans p0
                      have l0u := (bud.cell (p := ⟨lgb, 0, none⟩) zl4).trans l0
                      have q0u := (bud.cell (p := ⟨g, jp * 5, none⟩) zg).trans q0
                      have m4u := (bud.cell (p := ⟨fb, 1, none⟩) H4.out.2.1.lt).trans m4
                      have zgu := Nat.lt_of_lt_of_le zg bud.size
                      have zlu := Nat.lt_of_lt_of_le zl4 bud.size
                      have zxu := Nat.lt_of_lt_of_le zx4 bud.size
                      have zdu := Nat.lt_of_lt_of_le yd4 bud.size
                      have HUD := Lib.hid bud
                      clear hud bud c4 p0 l0 q0 m4 zg zl4 zx4 yd4
                      repeat still_step
                      refine wpStill_nil ?_
                      go_wp2_with ((go_at_call 118; refine (want_no fb _ 11 ud m4u).mono ?_; unfold FailE; rintro r w9 ⟨rfl, rfl⟩))
                      have kk : Keep (fb :: [lgb]) W w9 := H4.out.2.2.1.trans (Keep.of_below (S := []) HUD.out) (by simp)
                      exact ⟨rfl, due_fail (ln := j + 1 + 1) (e := 11) (by rw [HV.out]) (by decide) kk⟩
                    · have g1 : decide (pm ≤ xm) = true := decide_eq_true (by omega)
                      have hdu2 := HU.out.1
                      rw [if_neg (fun h => hlt2 h.2)] at hdu2
                      have HV := Lib.hid hdu2
                      clear hdu2
                      go_quiet ((go_at_call 118; exact Calls.quiet_of_same (want_yes _ 11 _)))
                      go_wp2_with fail
                      go_meet
                      exact ⟨HV.out, nq, rfl⟩
                case rest =>
                obtain ⟨hdu, nq, rfl⟩ := hcut
                obtain ⟨u6, hu6⟩ : ∃ u, u = u5.drewN nq := ⟨_, rfl⟩
                apply_assumption
                have b56 : Below u5.heap.size u5 u6 := by rw [hu6]; exact below_drewN (Below.refl _ _) _
                have o6 := H4.out.1.below b56
                have f6 := H4.out.2.1.keep b56
                have x6 := (b56.block xb zx4).trans H4.out.2.2.2.1
                have l6h := o6.heap 0 rfl
                have zl6 := heap_lt l6h
                have zx6 := heap_lt x6
                rw [← HJ.out] at l6h
                have own6 := o6.owns 4 rfl
                rw [← HJ.out] at own6
                have hlq : lgb ∉ qo := fun hm => o6.ne 0 4 rfl rfl (by decide) (x := lgb) (y := lgb) (by simp [It.fp]) hm rfl
                have hqz : ∀ x ∈ qo, x < u6.heap.size := fun x hx => o6.lt 4 rfl hx
                have hu5x : u3.heap.size ≤ xb := hxb3
                have hxq : xb ≠ lgb ∧ xb ∉ qo := HXQ.out
                rw [← hu6]
                have hjc : j ≤ 500 := by omega
                have H6 := Lib.hid (And.intro o6 (And.intro b56 (And.intro hdu (And.intro l6h (And.intro own6 (And.intro x6 f6))))))
                clear o6 b56 hdu l6h own6 x6 f6 hu6 p0 l0 c4 m4 zx4 zl4 yd4
                refine wp_region_steps (σ := ApS) (by kernel_rfl) (by kernel_rfl) (fun sg jx vx _ => DgV u6 lgb j c A (entsV es) qo xm xp xV xA xn xc xN sg jx vx) (fun sg ly wx => DgW u6 lgb j c A (entsV es) qo xm xp xV xA xn xc xN sg ly wx) ⟨0, none, 0, 0⟩ ?_ ?_ ?_
                · exact ⟨(Keep.refl _ _).drew, by show u6.heap[lgb]? = _; simpa using H6.out.2.2.2.1, fun _ => H6.out.2.2.2.2.1, (fun h => by cases h), fun h => by cases h⟩
                · simp only [AllFrom, Nat.zero_add, Nat.reduceAdd]
                  refine ⟨?_, ?_, ?_, ?_, ?_, ?_, ?_, ?_, ?_, ?_, ?_, trivial⟩
                  · refine step_pure fun sg ly a wr hl hd hW hF => ?_
                    have et0 := hF.old 0 (by kernel_rfl)
                    simp [Act.eval] at et0
                    exact ⟨by simpa [DgW, upd] using hW, .pointer (some ⟨lgb, 0, none⟩), by go_simp, rfl⟩
                  · refine step_pure fun sg ly a wr hl hd hW hF => ?_
                    have et0 := hF.old 0 (by kernel_rfl)
                    simp [Act.eval] at et0
                    exact ⟨by simpa [DgW, upd] using hW, .pointer (some ⟨lgb, 0, none⟩), by go_simp, rfl⟩
                  · refine step_pure fun sg ly a wr hl hd hW hF => ?_
                    simp [Region.binds] at hd
                    have et60 := hF.new 1 60 (by simp [hd]) rfl
                    simp [DgV, Act.eval] at et60
                    exact ⟨by simpa [DgW, upd] using hW, .pointer (some ⟨lgb, 0, none⟩), by go_simp, rfl⟩
                  · refine step_pure fun sg ly a wr hl hd hW hF => ?_
                    simp [Region.binds] at hd
                    have et61 := hF.new 2 61 (by simp [hd]) rfl
                    simp [DgV, Act.eval] at et61
                    exact ⟨by simpa [DgW, upd] using hW, .pointer (some ⟨lgb, 0, none⟩), by go_simp, rfl⟩
                  · refine step_pure fun sg ly a wr hl hd hW hF => ?_
                    simp [Region.binds] at hd
                    have et62 := hF.new 3 62 (by simp [hd]) rfl
                    simp [DgV, Act.eval] at et62
                    have nS := hF.notYet 4 10 hl (by kernel_rfl)
                    have hh := hW.2.1
                    rw [if_neg (by simp [nS])] at hh
                    have cL := (cell_of_heap hh 0).trans rfl
                    have zL := heap_lt hh
                    exact ⟨by simpa [DgW, upd] using hW, _, by go_simp, rfl⟩
                  · refine step_pure fun sg ly a wr hl hd hW hF => ?_
                    have et7 := hF.old 7 (by kernel_rfl)
                    simp [Act.eval] at et7
                    have hx := (hW.1.block xb zx6 (by simpa using hxq)).trans H6.out.2.2.2.2.2.1
                    have x0 := (cell_of_heap hx 0).trans rfl
                    have x1 := (cell_of_heap hx 1).trans rfl
                    have x2 := (cell_of_heap hx 2).trans rfl
                    have x3 := (cell_of_heap hx 3).trans rfl
                    have x4 := (cell_of_heap hx 4).trans rfl
                    have zx := heap_lt hx
                    exact ⟨by simpa [DgW, upd] using hW, .agg #[.int .i64 xm, .int .i64 xp, .string xV, .slice xA xn xc, .string xN], by go_simp, rfl⟩
                  · refine step_run fun sg ly a wx hl hd hW hF => ?_
                    simp [Region.binds] at hd
                    have et64 := hF.new 5 64 (by simp [hd]) rfl
                    simp [DgV, Act.eval] at et64
                    have nA := hF.notYet 6 7 hl (by kernel_rfl)
                    obtain ⟨k0, h0, o0, o1, b0⟩ := hW
                    refine ⟨_, wx.alloc (.cells #[Value.int .i64 xm, Value.int .i64 xp, Value.string xV, Value.slice xA xn xc, Value.string xN] 93), { sg with bs := wx.heap.size }, by go_simp, ⟨k0.alloc _, ?_, fun h => (o0 nA).keepS ((Keep.refl [] wx).alloc _) (by simp), fun h => ?_, fun _ _ => ⟨k0.size, heap_alloc_new _ _⟩⟩, rfl, ?_⟩
                    · simpa [upd] using heap_alloc' h0 _
                    · simp [upd, nA] at h
                    · intro i u hi h
                      have i6 : i ≠ 6 := by rintro rfl; rw [hl] at hi; cases hi
                      unfold DgV at h ⊢
                      split at h <;> first | exact h | exact absurd rfl i6
                  · intro sg ly a wx hl hd hW hF
                    simp [Region.binds] at hd
                    have et63 := hF.new 4 63 (by simp [hd]) rfl
                    simp [DgV, Act.eval] at et63
                    have et65 := hF.new 6 65 (by simp [hd]) rfl
                    simp [DgV, Act.eval] at et65
                    have nS := hF.notYet 7 10 hl (by kernel_rfl)
                    have yB : ly 6 = true := by simp [hd]
                    obtain ⟨k0, h0, o0, o1, b0⟩ := hW
                    obtain ⟨bz, bh⟩ := b0 yB hl
                    refine wp_append_S (.tmp 63) (.tmp 65) 27 rfl iE _ 72 Tryz.underlying27 hE0 hE1 hE2 (by decide) hE3 rfl (by simpa [Act.eval] using et63) ⟨sg.bs, 0, none⟩ (by simpa [Act.eval] using et65) [Value.int .i64 xm, Value.int .i64 xp, Value.string xV, Value.slice xA xn xc, Value.string xN] (o0 hl) rfl (fun jj v hj => by rw [show (⟨sg.bs, 0, none⟩ : Addr).add jj = ⟨sg.bs, jj, none⟩ from by simp [Addr.add]; omega]; exact (cell_of_heap bh jj).trans (by simpa using hj)) (by intro u hu; simp at hu; rcases hu with rfl | rfl | rfl | rfl | rfl <;> rfl) (by omega) (by decide) ?_
                    intro g c' w' q1 q2 q3 q4
                    refine ⟨{ sg with A := some ⟨g, 0, none⟩, c := c', g := g }, _, rfl, ⟨k0.trans q4 (fun x hx => .inl (by simp [hx])), ?_, fun h => ?_, fun _ => ⟨q1, ?_⟩, fun _ h => ?_⟩, fun _ => rfl, ?_⟩
                    · have := (q4.block lgb (heap_lt h0) hlq).trans h0
                      simpa [upd, nS] using this
                    · simp [upd] at h
                    · rcases q2 with e | e
                      · exact .inl e
                      · exact .inr (by show u6.heap.size ≤ g; have := k0.size; omega)
                    · simp [upd] at h
                    · intro i u hi h
                      have i7 : i ≠ 7 := by rintro rfl; rw [hl] at hi; cases hi
                      unfold DgV at h ⊢
                      split at h <;> first | exact h | exact absurd rfl i7
                  · refine step_pure fun sg ly a wr hl hd hW hF => ?_
                    simp [Region.binds] at hd
                    have et59 := hF.new 0 59 (by simp [hd]) rfl
                    simp [DgV, Act.eval] at et59
                    exact ⟨by simpa [DgW, upd] using hW, .pointer (some ⟨lgb, 0, none⟩), by go_simp, rfl⟩
                  · refine step_pure fun sg ly a wr hl hd hW hF => ?_
                    simp [Region.binds] at hd
                    have et67 := hF.new 8 67 (by simp [hd]) rfl
                    simp [DgV, Act.eval] at et67
                    exact ⟨by simpa [DgW, upd] using hW, .pointer (some ⟨lgb, 0, none⟩), by go_simp, rfl⟩
                  · refine step_store rfl fun sg ly a wx hl hd hW hF => ?_
                    simp [Region.binds] at hd
                    have et68 := hF.new 9 68 (by simp [hd]) rfl
                    simp [DgV, Act.eval] at et68
                    have et66 := hF.new 7 66 (by simp [hd]) rfl
                    simp [DgV, Act.eval] at et66
                    have yA : ly 7 = true := by simp [hd]
                    obtain ⟨k0, h0, o0, o1, b0⟩ := hW
                    rw [if_neg (by simp [hl])] at h0
                    have cL := (cell_of_heap h0 0).trans rfl
                    have fL := frozen_of_heap h0 0
                    have zL := heap_lt h0
                    obtain ⟨p1, p2⟩ := o1 yA
                    refine ⟨wx.setCell ⟨lgb, 0, none⟩ (.slice sg.A (j + 1) sg.c), sg, .skip, by go_simp, .inl rfl, ⟨k0.setCell (p := ⟨lgb, 0, none⟩) (.inl (by simp)) _, ?_, fun h => ?_, fun h => ⟨?_, p2⟩, fun h h2 => ?_⟩, fun _ _ _ h => h⟩
                    · rw [if_pos (by simp [upd])]; exact heap_set h0 0 _
                    · simp [upd, yA] at h
                    · refine p1.keepS ((Keep.refl [lgb] wx).setCell (p := ⟨lgb, 0, none⟩) (.inl (by simp)) _) ?_
                      intro g hg hm
                      rw [List.mem_singleton.1 hg] at hm
                      rw [List.mem_singleton.1 hm] at p2
                      rcases p2 with e | e
                      · exact hlq e
                      · omega
                    · simp [upd, yA] at h2
                intro sg a w7 hW hF
                obtain ⟨f, hf, rfl⟩ := hF.lit
                have HW := Lib.hid hW
                clear hf hF hW
                simp only [List.filterMap, List.foldl, List.setIfInBounds_toArray, List.set_cons_succ, List.set_cons_zero]
                go_wp2_with fail
                go_roundg (gk - 1)
                case measure => omega
                case rel =>
                  obtain ⟨k0, h0, _, o1, _⟩ := HW.out
                  simp only [List.length_cons, List.length_nil, Nat.reduceAdd, Nat.reduceLT, decide_true, if_true] at h0 o1
                  obtain ⟨p1, p2⟩ := o1 trivial
                  have hel : (es ++ [(⟨x, xA, xc⟩ : EnM)]).length = j + 1 := by rw [List.length_append, ← HJ.out]; rfl
                  have hev : entsV es ++ [Value.int .i64 xm, Value.int .i64 xp, Value.string xV, Value.slice xA xn xc, Value.string xN] = entsV (es ++ [⟨x, xA, xc⟩]) := by
                    rw [← entsV_snoc]
                    congr 1
                    have := HR.out.2.2.2.2.2.2.1 xA xc
                    have h9 : entL ⟨x, xA, xc⟩ = (entC x xA xc).toList := rfl
                    rw [h9, this]
                  rw [hev] at p1
                  have o6 := H6.out.1
                  have hg4 : ∀ b ∈ [sg.g], b ∈ qo ∨ u6.heap.size ≤ b := fun b hb => by rw [List.mem_singleton.1 hb]; exact p2
                  have hD : W.heap.size ≤ u6.heap.size := Nat.le_trans H4.out.2.2.1.size H6.out.2.1.size
                  have o7 : LogO w0 lgb r4 r5 fb sg.A sg.c (es ++ [⟨x, xA, xc⟩]) [sg.g] [.blk db (.cells #[.pointer (some ⟨fb, 0, none⟩)] 184)] w7 := by
                    unfold LogO
                    rw [hel]
                    refine Own.updG o6 _ (fun a => a = 0 ∨ a = 4) k0 ?_ ?_ ?_ ?_
                    · intro b hb
                      rcases List.mem_cons.1 hb with rfl | hb
                      · exact .inl ⟨0, _, .inl rfl, rfl, by simp [It.fp]⟩
                      · exact .inl ⟨4, _, .inr rfl, rfl, hb⟩
                    · intro a jt h
                      match a, h with
                      | 0, h => exact .inl (.inl rfl)
                      | 1, h => exact .inr h
                      | 2, h => exact .inr h
                      | 3, h => exact .inr h
                      | 4, h => exact .inl (.inr rfl)
                      | 5, h => exact .inr h
                      | 6, h => exact .inr h
                      | a + 7, h => simp at h
                    · intro a jt h hc
                      rcases hc with rfl | rfl
                      · cases h
                        exact ⟨h0, fun b hb => .inl ⟨_, rfl, hb⟩⟩
                      · cases h
                        refine ⟨p1, fun b hb => ?_⟩
                        rcases hg4 b hb with e | e
                        · exact .inl ⟨_, rfl, e⟩
                        · exact .inr e
                    · intro a b i1 i2 h1 h2 hab ha hb y hy1 hy2 hy3
                      rcases ha with rfl | rfl <;> rcases hb with rfl | rfl
                      · exact hab rfl
                      · cases h1
                        simp [It.fp] at hy1
                        have := zl6
                        omega
                      · cases h2
                        simp [It.fp] at hy2
                        have := zl6
                        omega
                      · exact hab rfl
                  have hq0 := HR.out.1.q
                  have hfq : fb ∉ lgb :: qo := by
                    intro hm
                    rcases List.mem_cons.1 hm with h | h
                    · exact o6.ne 3 0 rfl rfl (by decide) (x := fb) (y := lgb) (by simp [It.fp]) (by simp [It.fp]) h
                    · exact o6.ne 3 4 rfl rfl (by decide) (x := fb) (y := fb) (by simp [It.fp]) h rfl
                  refine ⟨es ++ [⟨x, xA, xc⟩], sg.A, sg.c, [sg.g], by rw [hel]; omega, by rw [hel]; go_num, ?_, ⟨o7, ?_, ?_, ?_⟩⟩
                  · rw [hel, H6.out.2.2.1]
                    have e1 : exs (es ++ [(⟨x, xA, xc⟩ : EnM)]) = exs es ++ [x] := by simp [exs]
                    rw [e1, show v - (j + 1) = v - j - 1 from by omega]
                  · rw [hel]
                    have := H6.out.2.2.2.2.2.2.keepX k0 hfq (fun b hb => by
                      rcases List.mem_cons.1 hb with rfl | hb
                      · exact .inl (by simp)
                      · exact .inr (hq0 b hb))
                    rw [HR.out.2.2.2.2.2.2.2.2, List.tail_drop] at this
                    exact this
                  · refine (H4.out.2.2.1.trans (Keep.of_below (S := []) H6.out.2.1) (by simp)).trans k0 (fun b hb => ?_)
                    rcases List.mem_cons.1 hb with rfl | hb
                    · exact .inl (by simp)
                    · exact .inr (hq0 b hb)
                  · intro b hb
                    rcases hg4 b hb with e | e
                    · exact hq0 b e
                    · omega
            · have kn2 : Calls Tryz.prog 117 #[.pointer (some ⟨fb, 0, none⟩)] wr fun e w' => e = FailE (j + 1 + 1 : Nat) e2 ∧ Keep [fb] wr w' := kn.mono fun e w' h => by
                obtain ⟨k1, k2⟩ := h
                rw [if_neg h9] at k2
                exact ⟨k2, k1⟩
              rw [if_pos h9] at hdu
              have HR := Lib.hid (And.intro S (And.intro kn2 hdu))
              clear S kn kn2 hdu hRl hRn fS bS hR he2 hdf
              go_wp2_with (go_at_call 117; refine HR.out.2.1.mono ?_; unfold FailE; rintro e u2 ⟨rfl, k2⟩; have HN2 := Lib.hid k2; clear k2)
              have kk : Keep (fb :: [lgb]) W u2 := HR.out.1.k.trans HN2.out (fun x hx => .inl (by simp at hx; simp [hx]))
              exact ⟨rfl, due_fail (ln := j + 1 + 1) (e := e2) (by rw [HR.out.2.2]) h9 kk⟩
          · obtain rfl : j = v := by omega
            rw [Nat.sub_self, dueE] at hdu
            have HR := Lib.hid (And.intro S hdu)
            clear S hdu hj
            go_wp2_with fail
            go_end0
            have S := HR.out.1
            refine ⟨S.k, fun _ => ⟨rfl, ?_, ?_⟩, fun h => by rw [HR.out.2] at h; exact absurd rfl h⟩
            · have := S.f
              rw [HR.out.2]
              rw [← HJ.out] at this
              exact this
            · rw [HR.out.2]
              exact ⟨A, c, es, qo, rfl, S.o.take 6⟩
  · have kn2 : Calls Tryz.prog 117 #[.pointer (some ⟨fb, 0, none⟩)] W1 fun e w' => e = FailE (0 + 1 : Nat) e1 ∧ Keep [fb] W1 w' := H.out.2.1.mono fun e w' h => by
      obtain ⟨k1, k2⟩ := h
      rw [if_neg h0] at k2
      exact ⟨k2, k1⟩
    have hdl2 := H.out.2.2.1
    rw [if_pos h0] at hdl2
    have H2 := Lib.hid (And.intro kn2 hdl2)
    clear kn2 hdl2 he1
    go_enter Tryz.func72, Tryz.ntmps72
    go_upto_region 1 with fail
    rw [← hW1, ← hdb]
    clear hW1 hdb
    go_wp2_with (go_at_call 117; refine H2.out.1.mono ?_; unfold FailE; rintro e w2 ⟨rfl, k2⟩; have HN := Lib.hid k2; clear k2)
    have kk : Keep (fb :: [lgb]) W w2 := (Keep.of_below (S := fb :: [lgb]) H.out.2.2.2.2.1).trans HN.out (fun x hx => .inl (by simp at hx; simp [hx]))
    exact ⟨rfl, due_fail (ln := 1) (e := e1) (by rw [H2.out.2]) h0 kk⟩
end Go.Proofs.YtaokegobilphnaaGreatDoor
/- log.ReadLog -/
namespace Go.Proofs.YtaokegobilphnaaGreatDoor
open Go Go.RowKit Go.Shelf Go.Proofs Sp Lg
set_option linter.unusedVariables false
set_option linter.unusedSimpArgs false

theorem dueE_N (l : List By) : ∀ (k i : Nat) (out : List Ent), (dueE l k i out).2.2 ≤ i + k
  | 0, i, out => by rw [dueE]; simp
  | k + 1, i, out => by
    rw [dueE]
    split
    · simp
    · split
      · simp
      · split
        · simp
        · have := dueE_N l k (i + 1) (out ++ [‹Ent›])
          omega
theorem dueL_N (l : List By) : (dueL l).2.2 ≤ 501 := by
  unfold dueL
  split
  · simp
  · split
    · simp
    · split
      · simp
      · have := dueE_N l ‹Nat› 1 []
        omega
theorem logO_start {w W : World} {lgb r4 r5 fb : Nat} (hl : lgb = w.heap.size) (h4 : r4 = lgb + 1) (h5 : r5 = lgb + 2) (hf : lgb + 3 ≤ fb) (hfb : fb < W.heap.size) (hb : Below w.heap.size w W) (hh : W.heap[lgb]? = some (.cells #[.slice none 0 0] 123 (0, 0))) : LogO w lgb r4 r5 fb none 0 [] [] [] W := by
  unfold LogO
  refine ⟨hb, hb.size, fun a i hi => ?_, fun a b i j hi hj hab x hx hy => ?_⟩
  · match a, hi with
    | 0, hi => cases hi; exact ⟨hh, fun x hx => by simp [It.fp] at hx; omega⟩
    | 1, hi => cases hi; exact ⟨show r4 < W.heap.size by omega, fun x hx => by simp [It.fp] at hx; omega⟩
    | 2, hi => cases hi; exact ⟨show r5 < W.heap.size by omega, fun x hx => by simp [It.fp] at hx; omega⟩
    | 3, hi => cases hi; exact ⟨hfb, fun x hx => by simp [It.fp] at hx; omega⟩
    | 4, hi => cases hi; exact ⟨OwnS.nil _ _ _, fun x hx => by simp [It.fp] at hx⟩
    | 5, hi => cases hi; exact ⟨ens_gen (D := w.heap.size) (fun e he => by cases he), fun x hx => by simp [It.fp, arsB] at hx⟩
    | a + 6, hi => simp at hi
  · match a, b, hi, hj, hab with
    | 0, 0, _, _, h => exact h rfl
    | 1, 1, _, _, h => exact h rfl
    | 2, 2, _, _, h => exact h rfl
    | 3, 3, _, _, h => exact h rfl
    | 0, 1, hi, hj, _ => cases hi; cases hj; simp [It.fp] at hx hy; omega
    | 0, 2, hi, hj, _ => cases hi; cases hj; simp [It.fp] at hx hy; omega
    | 0, 3, hi, hj, _ => cases hi; cases hj; simp [It.fp] at hx hy; omega
    | 1, 0, hi, hj, _ => cases hi; cases hj; simp [It.fp] at hx hy; omega
    | 1, 2, hi, hj, _ => cases hi; cases hj; simp [It.fp] at hx hy; omega
    | 1, 3, hi, hj, _ => cases hi; cases hj; simp [It.fp] at hx hy; omega
    | 2, 0, hi, hj, _ => cases hi; cases hj; simp [It.fp] at hx hy; omega
    | 2, 1, hi, hj, _ => cases hi; cases hj; simp [It.fp] at hx hy; omega
    | 2, 3, hi, hj, _ => cases hi; cases hj; simp [It.fp] at hx hy; omega
    | 3, 0, hi, hj, _ => cases hi; cases hj; simp [It.fp] at hx hy; omega
    | 3, 1, hi, hj, _ => cases hi; cases hj; simp [It.fp] at hx hy; omega
    | 3, 2, hi, hj, _ => cases hi; cases hj; simp [It.fp] at hx hy; omega
    | 4, _, hi, hj, _ => cases hi; simp [It.fp] at hx
    | 5, _, hi, hj, _ => cases hi; simp [It.fp, arsB] at hx
    | _, 4, hi, hj, _ => cases hj; simp [It.fp] at hy
    | _, 5, hi, hj, _ => cases hj; simp [It.fp, arsB] at hy
    | a + 6, _, hi, hj, _ => simp at hi
    | _, b + 6, hi, hj, _ => simp at hj
theorem results_lg3 {F : Func} {r s t : Nat} (hF : F.results = #[.tmp r, .tmp s, .tmp t]) (tmps : Array Value) (P : Program) (W : World) : (results F tmps).run P W = .ok (.tuple #[tmps.getD r undef, tmps.getD s undef, tmps.getD t undef]) W := by
  simp [results, hF]
def RlPost (w : World) (T : By) (e : Ending) (w' : World) : Prop :=
  ∃ A c es, e = .returned (.tuple #[.slice A es.length c, .int .i64 (rdLog T).2.1, .int .i64 (rdLog T).2.2]) ∧ exs es = (rdLog T).1 ∧ Rd w' 5 A es.length (entsV es) ∧ EnsOk w' es ∧ Below w.heap.size w w'
set_option maxRecDepth 100000 in
set_option maxHeartbeats 4000000 in
theorem gReadLog_any (s : ByteArray) (w : World) (hs : s.size ≤ 900000) (E : Env w) :
    Calls Tryz.prog 16 #[.string s] w (RlPost w s.data.toList) := by
  have hmf : ∀ (fn : Fn) (first cap : Array Value) (w : World), (Instr.makeFunc fn first cap).run Tryz.prog w = .ok (.func fn first cap) w := fun _ _ _ _ => rfl
  have hlen : s.data.toList.length = s.size := Array.length_toList
  obtain ⟨lgb, hlgb⟩ : ∃ b, b = w.heap.size := ⟨_, rfl⟩
  obtain ⟨W1, hW1⟩ : ∃ W, W = w.alloc (.cells #[.slice none 0 0] 123) := ⟨_, rfl⟩
  have h1 : W1.heap[lgb]? = some (.cells #[.slice none 0 0] 123 (0, 0)) := by rw [hW1, hlgb]; exact heap_alloc_new _ _
  have b1 : Below w.heap.size w W1 := by rw [hW1]; exact (Below.refl _ _).alloc (Nat.le_refl _) _
  have hz1 : W1.heap.size = lgb + 1 := by rw [hW1, hlgb]; simp
  obtain ⟨T, hT⟩ : ∃ T, T = s.data.toList := ⟨_, rfl⟩
  have hTl : T.length ≤ 900000 := by rw [hT]; omega
  have kr := gReadL_any (.pointer (some ⟨lgb, 0, none⟩)) s w W1 [lgb] (LogJ w lgb (lgb + 1) (lgb + 2) (dueL (lines T)).1) (dueL (lines T)).2.1 (dueL (lines T)).2.2 (by omega) (fun x hx => by simp at hx; omega) b1 E (by have := dueL_N (lines T); omega)
    (by
      rw [← hT]
      intro fb W hB hfb hf hx
      have hlt := hf.lt
      exact due_any (lines T) lgb (lgb + 1) (lgb + 2) fb w W (fun l hl => by have := (lines_len l hl).2; omega) (by have := lines_few T; omega) (logO_start hlgb rfl rfl (by omega) hlt hB (by rw [hx lgb (by simp)]; exact h1)) hf E)
    (by
      rw [hz1]
      rintro fb A B ⟨a, c, es, qo, h1, h2⟩ hk
      refine ⟨a, c, es, qo, h1, Own.keepAny h2 hk (fun x hx => .inl ?_)⟩
      simp only [List.mem_cons, List.not_mem_nil, or_false] at hx
      rcases hx with rfl | rfl | rfl
      · exact ⟨1, rfl⟩
      · exact ⟨2, rfl⟩
      · exact ⟨3, rfl⟩)
  rw [← hT] at kr ⊢
  have hrl := rdLog_due T
  obtain ⟨ln, hln⟩ : ∃ x, x = (rdRes T (dueL (lines T)).2.1 (dueL (lines T)).2.2).1 := ⟨_, rfl⟩
  obtain ⟨er, her⟩ : ∃ x, x = (rdRes T (dueL (lines T)).2.1 (dueL (lines T)).2.2).2 := ⟨_, rfl⟩
  have hpr : rdRes T (dueL (lines T)).2.1 (dueL (lines T)).2.2 = (ln, er) := by rw [hln, her]
  unfold ReadPost at kr
  rw [hpr] at kr hrl
  simp only at kr hrl
  by_cases h0 : er = 0
  · have hln0 : ln = 0 ∨ True := .inr trivial
    rw [if_pos h0] at hrl
    subst h0
    have kr2 : Calls Tryz.prog 71 #[.string s, .func (.func 72) #[.pointer (some ⟨lgb, 0, none⟩)] #[]] W1 fun e w' => e = .returned (.tuple #[.int .i64 ln, .int .i64 0]) ∧ ∃ A c es qo fb, exs es = (dueL (lines T)).1 ∧ LogO w lgb (lgb + 1) (lgb + 2) fb A c es qo [] w' := kr.mono fun e w' ⟨h1, h2, h3⟩ => by
      obtain ⟨fb, _, A, c, es, qo, h4, h5⟩ := h3 rfl
      exact ⟨h1, A, c, es, qo, fb, h4, h5⟩
    have H := Lib.hid (And.intro kr2 hrl)
    clear kr kr2 hrl hln her hpr hT hlen b1 h1 hz1
    go_enter Tryz.func16, Tryz.ntmps16
    go_upto_region 2 with fail
    rw [← hW1, ← hlgb]
    clear hW1 hlgb
    go_wp2_with (go_at_call 71; refine H.out.1.mono ?_; rintro e w2 ⟨rfl, A, c, es, qo, fb, hes, hO⟩; have hh := Own.heap hO 0 rfl; have l0 := (cell_of_heap hh 0).trans rfl; have zl := heap_lt hh; have H2 := Lib.hid (And.intro hes hO); clear hes hO hh)
    refine bodyPost_ret (results_lg3 rfl _ _ _) rfl ?_
    refine ⟨A, c, es, ?_, ?_, (Own.owns H2.out.2 4 rfl).rd, gen_ens (Own.get H2.out.2 5 rfl), H2.out.2.bel⟩
    · rw [H.out.2]; rfl
    · rw [H.out.2]; exact H2.out.1
  · have hne : (er != 0) = true := by simpa using h0
    rw [if_neg h0] at hrl
    have kr2 : Calls Tryz.prog 71 #[.string s, .func (.func 72) #[.pointer (some ⟨lgb, 0, none⟩)] #[]] W1 fun e w' => e = .returned (.tuple #[.int .i64 ln, .int .i64 er]) ∧ Below w.heap.size w w' := kr.mono fun e w' ⟨h1, h2, h3⟩ => ⟨h1, h2⟩
    have H := Lib.hid (And.intro kr2 hrl)
    clear kr kr2 hrl hln her hpr hT hlen b1 h1 hz1
    go_enter Tryz.func16, Tryz.ntmps16
    go_upto_region 2 with fail
    rw [← hW1, ← hlgb]
    clear hW1 hlgb
    go_wp2_with (go_at_call 71; refine H.out.1.mono ?_; rintro e w2 ⟨rfl, b2⟩; have H2 := Lib.hid b2; clear b2)
    refine bodyPost_ret (results_lg3 rfl _ _ _) rfl ?_
    refine ⟨none, 0, [], ?_, ?_, ⟨rfl, fun h => absurd h (by simp)⟩, (fun e he => by cases he), H2.out⟩
    · rw [H.out.2]; rfl
    · rw [H.out.2]; rfl
end Go.Proofs.YtaokegobilphnaaGreatDoor
