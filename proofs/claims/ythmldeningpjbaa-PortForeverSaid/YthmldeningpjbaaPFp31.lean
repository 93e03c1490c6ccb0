/- polynyaref09: Times, Stays -/
import Derived.Test.YthmldeningpjbaaPFp26
import Derived.Test.YthmldeningpjbaaPFp30
import Derived.Test.YthmldeningpjbaaPFp24
set_option linter.unusedVariables false
set_option linter.unusedSimpArgs false
namespace Go.Proofs.Ythmldeningpjbaa
open Go Go.RowKit Sp Pt
set_option linter.unusedVariables false
set_option linter.unusedSimpArgs false

set_option maxRecDepth 100000 in
set_option maxHeartbeats 2000000 in
theorem rtimes_any (m : Mp) (b : Int) (w : World) (h1 : -1 ≤ m.most ∧ m.most ≤ 10000000) (h2 : 0 ≤ m.floor ∧ m.floor ≤ 10000000) (h3 : -10000000 ≤ m.add ∧ m.add ≤ 10000000) (hb : -1 ≤ b) :
    Calls Try.prog 92 #[mpV m, .int .i64 b] w fun e w' => e = .returned (.int .i64 (timesF m 10000003 b 0)) ∧ Below w.heap.size w w' := by
  obtain ⟨W, hW⟩ : ∃ W, W = w.alloc (.cells #[.int .i64 m.add, .int .i64 m.floor, .int .i64 m.most] 95) := ⟨_, rfl⟩
  obtain ⟨mb, hmb⟩ : ∃ b, b = w.heap.size := ⟨_, rfl⟩
  have hh : W.heap[mb]? = some (.cells #[.int .i64 m.add, .int .i64 m.floor, .int .i64 m.most] 95 (0, 0)) := by rw [hW, hmb]; exact heap_alloc_new _ _
  have c0 : W.cell? ⟨mb, 0, none⟩ = some (.int .i64 m.add) := (cell_of_heap hh 0).trans rfl
  have c1 : W.cell? ⟨mb, 1, none⟩ = some (.int .i64 m.floor) := (cell_of_heap hh 1).trans rfl
  have c2 : W.cell? ⟨mb, 2, none⟩ = some (.int .i64 m.most) := (cell_of_heap hh 2).trans rfl
  have z := heap_lt hh
  have HB := Lib.hid (show Below w.heap.size w W by rw [hW]; exact (Below.refl _ _).alloc (Nat.le_refl _) _)
  obtain ⟨N, hN⟩ : ∃ N : Nat, N = 10000003 := ⟨_, rfl⟩
  obtain ⟨r, hr⟩ : ∃ r, r = timesF m N b 0 := ⟨_, rfl⟩
  rw [← hN, ← hr]
  have HR := Lib.hid hr
  have hNb : (N : Int) = 10000003 := by omega
  have HN := Lib.hid (And.intro hNb hN)
  obtain ⟨ma, mf, mm⟩ := m
  simp only at *
  clear hh hr hN hNb
  go_enter Try.func92, Try.ntmps92
  go_wp2_with fail
  rw [← hW, ← hmb]
  clear hW hmb
  go_loopg [1, 5] (N) (fun g bv nv wr => ∃ (b' n' : Int), bv = .int .i64 b' ∧ nv = .int .i64 n' ∧ r = timesF ⟨ma, mf, mm⟩ g b' n' ∧ -1 ≤ b' ∧ (b' ≤ mm → mm - b' + 1 < (g : Int)) ∧ 0 ≤ n' ∧ n' + g ≤ 10000003 ∧ W = wr)
  case atStart => exact ⟨b, 0, rfl, rfl, HR.out, hb, fun h => by have := HN.out.1; omega, by omega, by have := HN.out.1; omega, rfl⟩
  case round =>
    obtain ⟨b', n', rfl, rfl, hT, hb1, hb2, hn1, hn2, rfl⟩ := hrel
    by_cases hle : b' ≤ mm
    · have hg := hb2 hle
      obtain ⟨g', hg'⟩ : ∃ g', gk = g' + 1 := ⟨gk - 1, by omega⟩
      have hT' : r = if max (b' + ma) mf ≤ b' then -1 else timesF ⟨ma, mf, mm⟩ g' (max (b' + ma) mf) (n' + 1) := by
        rw [hT, hg', timesF, if_pos hle]
      have HT := Lib.hid (And.intro hT' hg')
      clear hT hT' hb2 hg'
      by_cases hx : b' + ma < mf
      · by_cases hy : mf ≤ b'
        · have HV : Hid (r = -1) := Lib.hid (by rw [HT.out.1, if_pos (by omega)])
          go_wp2_with fail
          go_ret
          exact ⟨by rw [HV.out]; rfl, HB.out⟩
        · have HV : Hid (r = timesF ⟨ma, mf, mm⟩ (gk - 1) mf (n' + 1)) := Lib.hid (by rw [HT.out.1, if_neg (by omega), show max (b' + ma) mf = mf from by omega, HT.out.2]; rfl)
          go_wp2_with fail
          go_roundg (gk - 1)
          case measure => omega
          case rel => exact ⟨mf, n' + 1, by go_num, by go_num, HV.out, by omega, fun h => by omega, by omega, by omega, rfl⟩
      · by_cases hy : b' + ma ≤ b'
        · have HV : Hid (r = -1) := Lib.hid (by rw [HT.out.1, if_pos (by omega)])
          go_wp2_with fail
          go_ret
          exact ⟨by rw [HV.out]; rfl, HB.out⟩
        · have HV : Hid (r = timesF ⟨ma, mf, mm⟩ (gk - 1) (b' + ma) (n' + 1)) := Lib.hid (by rw [HT.out.1, if_neg (by omega), show max (b' + ma) mf = b' + ma from by omega, HT.out.2]; rfl)
          go_wp2_with fail
          go_roundg (gk - 1)
          case measure => omega
          case rel => exact ⟨b' + ma, n' + 1, by go_num, by go_num, HV.out, by omega, fun h => by omega, by omega, by omega, rfl⟩
    · have HV : Hid (r = n') := Lib.hid (by rw [hT, timesF_end (by simp only; omega)])
      clear hT hb2
      go_wp2_with fail
      go_ret
      exact ⟨by rw [HV.out]; rfl, HB.out⟩

set_option maxRecDepth 100000 in
set_option maxHeartbeats 4000000 in
theorem rStays_any (D : Nat) (Ac : Option Addr) (cc : Nat) (Ab : Option Addr) (cb : Nat) (p : Prt) (Al : Option Addr) (cl : Nat) (As : Option Addr) (cs : Nat) (l : Pln) (w : World) (PB : PrtB D w Ac cc Ab cb p) (LB : PlnB D w Al cl As cs l) (hD : D ≤ w.heap.size) :
    Calls Try.prog 36 #[.agg (prtV Ac cc Ab cb p), .agg (plnV Al cl As cs l)] w (StaysPost w p l) := by
  obtain ⟨iI, hI0, hI1, hI2, hI3⟩ := info_parts infoKI
  obtain ⟨W, hW⟩ : ∃ W, W = (w.alloc (.cells (prtV Ac cc Ab cb p) 79)).alloc (.cells (plnV Al cl As cs l) 85) := ⟨_, rfl⟩
  obtain ⟨pb, hpb⟩ : ∃ pb, pb = w.heap.size := ⟨_, rfl⟩
  obtain ⟨lb, hlb⟩ : ∃ lb, lb = w.heap.size + 1 := ⟨_, rfl⟩
  have B0 : BxT 79 85 w W pb lb D Ac cc Ab cb p Al cl As cs l := by
    have b0 : Below w.heap.size w W := by rw [hW]; exact ((Below.refl _ _).alloc (Nat.le_refl _) _).alloc (by simp) _
    refine ⟨b0, by rw [hW, hpb]; exact heap_alloc' (heap_alloc_new _ _) _, ?_, PB.below (b0.mono hD), LB.below (b0.mono hD), by have := b0.size; omega⟩
    rw [hW, hlb]
    have := heap_alloc_new (w.alloc (.cells (prtV Ac cc Ab cb p) 79)) (.cells (plnV Al cl As cs l) 85)
    rwa [World.size_alloc] at this
  obtain ⟨er, her⟩ : ∃ er, er = checkL p l := ⟨_, rfl⟩
  have kck : Calls Try.prog 53 #[.agg (prtV Ac cc Ab cb p), .agg (plnV Al cl As cs l)] W _ := rCheckPlan_any D Ac cc Ab cb p Al cl As cs l W B0.PB B0.LB B0.hD
  rw [← her] at kck
  have hcap := And.intro PB.c1 (And.intro PB.c2 (And.intro LB.c1 LB.c2))
  have HB := Lib.hid (And.intro B0 (And.intro her kck))
  obtain ⟨c0, c1, c2, zp, c3, c4, c5, zl⟩ := B0.cells
  clear B0 her kck PB LB
  go_enter Try.func36, Try.ntmps36
  go_upto_region 1 with fail
  rw [← hW, ← hlb, ← hpb]
  clear hW hlb hpb
  by_cases h0 : er = 0
  · subst h0
    go_upto_region 4 with (go_at_call 53; refine HB.out.2.2.mono ?_; rintro e w1 ⟨rfl, b1⟩; have H1 := Lib.hid (HB.out.1.below b1); clear b1)
    clear c0 c1 c2 zp c3 c4 c5 zl
    obtain ⟨c0, c1, c2, zp, c3, c4, c5, zl⟩ := H1.out.cells
    have hck : checkL p l = 0 := HB.out.2.1.symm
    have v := val_of hck
    have hnb := v.nb
    have hnc := v.nc
    have hL60 := v.nx.1
    have HV := Lib.hid (And.intro hck v)
    have bad : turns p l = false → ∀ w', Below w.heap.size w w' → StaysPost w p l (.returned (.tuple #[.slice none 0 0, .int .i64 9])) w' := fun h w' hb => stays_no (by unfold staysE; rw [if_neg (by rw [hck]; simp), if_pos h]) (by decide) hb
    have HBad := Lib.hid bad
    clear hck v bad
    obtain ⟨L, hL⟩ : ∃ L, L = l.calls.length := ⟨_, rfl⟩
    rw [← hL] at c4 hcap hL60
    have HL := Lib.hid hL
    clear hL
    go_wp2_with fail
    clear c0 c1 c2 zp c3 c4 c5 zl
    go_loopg [7] (p.bts.length) (fun g i wr => ∃ k : Nat, g + k = p.bts.length ∧ i = .int .i64 k ∧ turnsN l k = true ∧ Below w1.heap.size w1 wr)
    case atStart => exact ⟨0, rfl, rfl, rfl, Below.refl _ _⟩
    case round =>
      obtain ⟨k, hk, rfl, hT, hB⟩ := hrel
      have H2 := Lib.hid (H1.out.below hB)
      obtain ⟨c0, c1, c2, zp, c3, c4, c5, zl⟩ := H2.out.cells
      rw [← HL.out] at c4
      have HT := Lib.hid (And.intro hT hB)
      clear hT hB
      by_cases hlt : k < p.bts.length
      · obtain ⟨G1, rfl⟩ : ∃ G, G = gk := ⟨_, rfl⟩
        obtain ⟨w2, hw2⟩ : ∃ w2, w2 = wr := ⟨_, rfl⟩
        subst hw2
        go_wp2_with fail
        clear c0 c1 c2 zp c3 c4 c5 zl
        go_loopg [8, 9, 10, 11] (L) (fun g n f t i wi => ∃ (j : Nat) (fi la : Bool), g + j = L ∧ i = .int .i64 j ∧ n = .int .i64 (outsN l (k : Int) j).length ∧ f = .bool fi ∧ t = .bool la ∧ (0 < (outsN l (k : Int) j).length → fi = (outsN l (k : Int) j).getD 0 false ∧ la = (outsN l (k : Int) j).getD ((outsN l (k : Int) j).length - 1) false) ∧ turnsL (outsN l (k : Int) j) = true ∧ Below w2.heap.size w2 wi)
        case atStart => exact ⟨0, false, false, rfl, rfl, rfl, rfl, rfl, fun h => absurd h (by simp [outsN]), rfl, Below.refl _ _⟩
        case round =>
          obtain ⟨j, fi, la, hj, rfl, rfl, rfl, rfl, hfl, hTL, hB⟩ := hrel
          have B3 := H2.out.below hB
          obtain ⟨c0, c1, c2, zp, c3, c4, c5, zl⟩ := B3.cells
          rw [← HL.out] at c4
          have hlen := outsN_len l (k : Int) j
          rw [← HL.out] at hlen
          obtain ⟨n, hn⟩ : ∃ n, n = (outsN l (k : Int) j).length := ⟨_, rfl⟩
          rw [← hn] at hlen hfl ⊢
          by_cases hlj : j < L
          · have hjl : j < l.calls.length := by rw [← HL.out]; exact hlj
            obtain ⟨b, off, hAl, hbD, hcell⟩ := B3.LB.calls.2 (by omega)
            obtain ⟨g0, g1, g2, g3, g4, g5⟩ := cacs_get hjl
            obtain ⟨x, hx⟩ : ∃ x, x = l.calls[j] := ⟨_, rfl⟩
            have hsucc := outsN_succ (b := (k : Int)) hjl
            rw [← hx] at g0 g1 g2 g3 g4 g5 hsucc
            have d0 := hcell _ _ g0
            have d1 : wr.cell? ⟨b, off + j * 6 + 1, none⟩ = _ := hcell _ _ g1
            have d2 : wr.cell? ⟨b, off + j * 6 + 2, none⟩ = _ := hcell _ _ g2
            have d3 : wr.cell? ⟨b, off + j * 6 + 3, none⟩ = _ := hcell _ _ g3
            have d4 : wr.cell? ⟨b, off + j * 6 + 4, none⟩ = _ := hcell _ _ g4
            have d5 : wr.cell? ⟨b, off + j * 6 + 5, none⟩ = _ := hcell _ _ g5
            have zb := World.block_lt_of_cell? _ _ d0
            have n2 : (j : Int) < (L : Int) := by omega
            have hbad : x.berth = (k : Int) → 0 < n → la = x.out → turns p l = false := fun h1 h2 h3 => turns_same hlt hjl (by rw [← hx]; exact h1) (by rw [← hn]; exact h2) (by rw [← hn, ← hx, ← (hfl h2).2]; exact h3)
            have HS := Lib.hid (And.intro hsucc (And.intro hfl (And.intro hTL (And.intro hB (And.intro B3.bel (And.intro hbad hn))))))
            subst hAl
            clear hsucc hfl hTL hB hcell g0 g1 g2 g3 g4 g5 B3 hbad hn hjl hx
            obtain ⟨ho, be, ou, dr, mo, tg⟩ := x
            simp only at d0 d1 d2 d3 d4 d5
            by_cases hbe : be = (k : Int)
            · subst hbe
              have hne : ((k : Int) != (k : Int)) = false := by simp
              by_cases hn0 : n = 0
              · subst hn0
                have hs2 : outsN l (k : Int) (j + 1) = [ou] := by
                  rw [HS.out.1, if_pos rfl, List.eq_nil_of_length_eq_zero HS.out.2.2.2.2.2.2.symm]; rfl
                have HS2 := Lib.hid hs2
                clear hs2
                go_wp2_with fail
                go_roundg (gk - 1)
                case measure => omega
                case rel => exact ⟨j + 1, ou, ou, by omega, by go_num, by rw [HS2.out]; go_num, rfl, rfl, fun _ => by rw [HS2.out]; exact ⟨rfl, rfl⟩, by rw [HS2.out]; rfl, HS.out.2.2.2.1.alloc HS.out.2.2.2.1.size _⟩
              · have hn00 : ((n : Int) == 0) = false := beq_eq_false_iff_ne.2 (by omega)
                by_cases heq : la = ou
                · subst heq
                  have hee : (la == la) = true := by simp
                  have HF := Lib.hid (HBad.out (HS.out.2.2.2.2.2.1 rfl (by omega) rfl))
                  go_wp2_with fail
                  go_ret2
                  exact HF.out _ (HS.out.2.2.2.2.1.alloc HS.out.2.2.2.2.1.size _)
                · have hee : (ou == la) = false := beq_eq_false_iff_ne.2 (fun h => heq h.symm)
                  have hs2 : outsN l (k : Int) (j + 1) = outsN l (k : Int) j ++ [ou] := by rw [HS.out.1, if_pos rfl]
                  have ht2 : turnsL (outsN l (k : Int) (j + 1)) = true := by
                    rw [hs2, turnsL_snoc, HS.out.2.2.1, ← HS.out.2.2.2.2.2.2, ← (HS.out.2.1 (by omega)).2]
                    simp [heq]
                  have hl2 : (outsN l (k : Int) (j + 1)).length = n + 1 := by rw [hs2, List.length_append, ← HS.out.2.2.2.2.2.2]; rfl
                  have hf2 : fi = (outsN l (k : Int) (j + 1)).getD 0 false := by
                    rw [(HS.out.2.1 (by omega)).1, hs2, List.getD_eq_getElem?_getD, List.getD_eq_getElem?_getD, List.getElem?_append_left (by rw [← HS.out.2.2.2.2.2.2]; omega)]
                  have hl3 : ou = (outsN l (k : Int) (j + 1)).getD ((outsN l (k : Int) (j + 1)).length - 1) false := by
                    rw [hl2, hs2, Nat.add_sub_cancel, List.getD_eq_getElem?_getD, List.getElem?_append_right (by rw [← HS.out.2.2.2.2.2.2]; exact Nat.le_refl _), ← HS.out.2.2.2.2.2.2]; simp
                  have HS2 := Lib.hid (And.intro ht2 (And.intro hl2 (And.intro hf2 hl3)))
                  clear hs2 ht2 hl2 hf2 hl3 heq
                  go_wp2_with fail
                  go_roundg (gk - 1)
                  case measure => omega
                  case rel => exact ⟨j + 1, fi, ou, by omega, by go_num, by rw [HS2.out.2.1]; go_num, rfl, rfl, fun _ => ⟨HS2.out.2.2.1, HS2.out.2.2.2⟩, HS2.out.1, HS.out.2.2.2.1.alloc HS.out.2.2.2.1.size _⟩
            · have hne : (be != (k : Int)) = true := by simpa using hbe
              have hs2 : outsN l (k : Int) (j + 1) = outsN l (k : Int) j := by rw [HS.out.1, if_neg hbe, List.append_nil]
              have HS2 := Lib.hid hs2
              clear hs2 hbe
              go_wp2_with fail
              go_roundg (gk - 1)
              case measure => omega
              case rel => exact ⟨j + 1, fi, la, by omega, by go_num, by rw [HS2.out, ← HS.out.2.2.2.2.2.2], rfl, rfl, by rw [HS2.out, ← HS.out.2.2.2.2.2.2]; exact HS.out.2.1, by rw [HS2.out]; exact HS.out.2.2.1, HS.out.2.2.2.1.alloc HS.out.2.2.2.1.size _⟩
          · obtain rfl : j = L := by omega
            have ha : outsN l (k : Int) j = outsOf l (k : Int) := by rw [HL.out]; exact outsN_all l (k : Int)
            rw [ha] at hn hTL hfl
            have hBk := turnsB_ref hTL
            rw [← hn] at hBk
            have HS := Lib.hid (And.intro hBk (And.intro hfl (And.intro hB (And.intro B3.bel hn))))
            clear hBk hfl hB B3 hn hTL ha
            by_cases hn0 : 0 < n
            · have hd1 : decide ((0 : Int) < (n : Int)) = true := by simp; omega
              have hd2 : decide (0 < n) = true := by simpa using hn0
              by_cases heq : fi = la
              · subst heq
                have hee : (fi == fi) = true := by simp
                have ht : turns p l = false := turns_no hlt (by
                  rw [HS.out.1, ← (HS.out.2.1 hn0).1, ← (HS.out.2.1 hn0).2]; simp [hn0])
                have HF := Lib.hid (HBad.out ht)
                clear ht
                go_wp2_with fail
                go_ret2
                exact HF.out _ HS.out.2.2.2.1
              · have hee : (fi == la) = false := beq_eq_false_iff_ne.2 heq
                have ht : turnsB l (k : Int) = true := by
                  rw [HS.out.1, ← (HS.out.2.1 hn0).1, ← (HS.out.2.1 hn0).2]; simp [hn0, heq]
                have HF := Lib.hid ht
                clear ht heq
                go_wp2_with fail
                go_roundg (G1 - 1)
                case measure => omega
                case rel => exact ⟨k + 1, by omega, by go_num, by rw [turnsN, HT.out.1, HF.out]; rfl, HT.out.2.trans (HS.out.2.2.1.mono HT.out.2.size)⟩
            · obtain rfl : n = 0 := by omega
              have ht : turnsB l (k : Int) = true := by rw [HS.out.1]; simp
              have HF := Lib.hid ht
              clear ht
              go_wp2_with fail
              go_roundg (G1 - 1)
              case measure => omega
              case rel => exact ⟨k + 1, by omega, by go_num, by rw [turnsN, HT.out.1, HF.out]; rfl, HT.out.2.trans (HS.out.2.2.1.mono HT.out.2.size)⟩
      · obtain rfl : k = p.bts.length := by omega
        obtain ⟨hT0, hB0⟩ := HT.out
        clear c0 c1 c2 zp c3 c4 c5 zl
        have ht : turns p l = true := hT0
        have hvv := HV.out.2
        have H2 := Lib.hid (H1.out.below hB0)
        obtain ⟨c0, c1, c2, zp, c3, c4, c5, zl⟩ := H2.out.cells
        have HTT := Lib.hid (And.intro ht hB0)
        clear ht hB0 hT0 hvv
        obtain ⟨w3, hw3⟩ : ∃ w3, w3 = wr := ⟨_, rfl⟩
        subst hw3
        go_wp2_with fail
        clear c0 c1 c2 zp c3 c4 c5 zl
        go_loopg [13, 14] (p.chs.length) (fun g o i wr => ∃ (k : Nat) (Ao : Option Addr) (co : Nat) (q : List Nat), g + k = p.chs.length ∧ i = .int .i64 k ∧ o = .slice Ao k co ∧ OwnA wr 3 Ao k co (ints (((folds p l).map (·.most)).take k)) q ∧ (∀ g ∈ q, w3.heap.size ≤ g) ∧ Keep [] w3 wr ∧ ∀ j, j < k → staysBad (foldS p l j) = false)
        case atStart => exact ⟨0, none, 0, [], rfl, rfl, rfl, OwnA.nil _ _, by simp, Keep.refl _ _, by omega⟩
        case round =>
          obtain ⟨k, Ao, co, q, hk, rfl, rfl, hown, hq, hK, hgood⟩ := hrel
          have B4 := H2.out.below (hK.below (Nat.le_refl _) (by simp))
          obtain ⟨c0, c1, c2, zp, c3, c4, c5, zl⟩ := B4.cells
          by_cases hlt : k < p.chs.length
          · have kf := rfold_any D Ac cc Ab cb p Al cl As cs l k wr B4.PB B4.LB B4.hD HV.out.2 hlt
            obtain ⟨m, hm⟩ : ∃ m, m = foldS p l (k : Int) := ⟨_, rfl⟩
            have hj := foldS_jm HV.out.2 (c := (k : Int)) (by omega) (by omega)
            rw [← hm] at kf hj
            obtain ⟨ad, fl, mo⟩ := m
            have HI := Lib.hid (And.intro hown (And.intro hq (And.intro hK (And.intro hgood (And.intro hm kf)))))
            have HSB : Hid (staysBad ⟨ad, fl, mo⟩ = (decide (mo ≠ 1000000000) && (decide (0 < ad) || decide (mo < fl)))) := Lib.hid rfl
            have HJ := Lib.hid hj
            have hbw : Below w.heap.size w wr := B4.bel
            have HBW := Lib.hid hbw
            clear hown hq hK hgood hm kf B4 hj hbw
            go_upto_region 27 with (go_at_call 91; refine HI.out.2.2.2.2.2.mono ?_; rintro e w4 ⟨rfl, b4⟩; have B4 := Lib.hid b4; clear b4)
            obtain ⟨W5, hW5⟩ : ∃ W5, W5 = w4.alloc (.cells #[.int .i64 ad, .int .i64 fl, .int .i64 mo] 95) := ⟨_, rfl⟩
            obtain ⟨mb, hmb⟩ : ∃ b, b = w4.heap.size := ⟨_, rfl⟩
            have hh : W5.heap[mb]? = some (.cells #[.int .i64 ad, .int .i64 fl, .int .i64 mo] 95 (0, 0)) := by rw [hW5, hmb]; exact heap_alloc_new _ _
            have m0 : W5.cell? ⟨mb, 0, none⟩ = some (.int .i64 ad) := (cell_of_heap hh 0).trans rfl
            have m1 : W5.cell? ⟨mb, 1, none⟩ = some (.int .i64 fl) := (cell_of_heap hh 1).trans rfl
            have m2 : W5.cell? ⟨mb, 2, none⟩ = some (.int .i64 mo) := (cell_of_heap hh 2).trans rfl
            have zm := heap_lt hh
            have k5 : Keep [] wr W5 := by rw [hW5]; exact (Keep.of_below B4.out).alloc _
            have H5 := Lib.hid (And.intro (HI.out.1.keepS k5 (by simp)) (And.intro k5 k5.size))
            rw [← hW5, ← hmb]
            clear hW5 hmb hh k5 c0 c1 c2 zp c3 c4 c5 zl
            by_cases e1 : mo = 1000000000
            · have e1b : (mo != 1000000000) = false := by simpa using e1
              have HE1 := Lib.hid e1
              clear e1
              go_wp2_with (at_builtin; refine wpList_append_A rfl (.tmp 85) (.tmp 88) 33 rfl iI _ 8 Try.underlying33 hI0 hI1 hI2 hI3 rfl (A := Ao) (n := k) (c := co) (xs := ints (((folds p l).map (·.most)).take k)) (fp := q) (by simp [Act.eval]) _ (by simp [Act.eval]) (.int .i64 mo) (H5.out.1.alloc _) (cell_new_one _ _ _) rfl (by omega) (by omega) ?_; intro g off' c' w6 e1 e2 e3 e4; have HQ := Lib.hid (And.intro e1 (And.intro e2 e4)); clear e1 e2 e3 e4)
              go_roundg (gk - 1)
              case measure => omega
              case rel =>
                obtain ⟨h1, h2, h3, h4, h5, h6⟩ := HI.out
                obtain ⟨f1, f2, f4⟩ := HQ.out
                have hmo : (foldS p l (k : Int)).most = mo := by rw [← h5]
                refine ⟨k + 1, some ⟨g, off', none⟩, c', [g], by omega, by go_num, rfl, by rw [folds_most hlt, hmo]; simpa [ints] using f1, ?_, ((h3.trans H5.out.2.1 (by simp)).alloc _).trans f4 (fun y hy => .inr (h2 y hy)), ?_⟩
                · intro y hy
                  rw [List.mem_singleton.1 hy]
                  rcases f2 with f2 | f2
                  · exact h2 _ f2
                  · have := h3.size; have := H5.out.2.1.size; simp at f2; omega
                · intro j hj
                  by_cases ej : j = k
                  · subst ej; rw [← h5, HSB.out, HE1.out]; simp
                  · exact h4 j (by omega)
            · have e1b : (mo != 1000000000) = true := by simpa using e1
              obtain ⟨t, ht⟩ : ∃ t, t = timesF ⟨ad, fl, mo⟩ 10000003 mo 0 := ⟨_, rfl⟩
              have hjm := HJ.out
              have kt : Calls Try.prog 92 #[.agg #[.int .i64 ad, .int .i64 fl, .int .i64 mo], .int .i64 mo] W5 fun e w' => e = .returned (.int .i64 t) ∧ Below W5.heap.size W5 w' := by
                rw [ht]
                obtain ⟨⟨a, a'⟩, ⟨b, b'⟩, d, e, f⟩ := hjm
                simp only [NL] at *
                exact rtimes_any ⟨ad, fl, mo⟩ mo W5 (by simp only; omega) (by simp only; omega) (by simp only; omega) d
              have htt := times_stays (m := ⟨ad, fl, mo⟩) (g := 10000003) (by omega)
              simp only at htt
              rw [← ht] at htt
              have hsb : staysBad ⟨ad, fl, mo⟩ = decide (0 ≤ t) := by rw [HSB.out, htt]; simp [e1]
              have HT2 := Lib.hid (And.intro kt hsb)
              clear kt htt hsb ht hjm
              by_cases e2 : 0 ≤ t
              · go_wp2_with (go_at_call 92; refine HT2.out.1.mono ?_; rintro e w6 ⟨rfl, b6⟩; have B6 := Lib.hid b6; clear b6)
                go_ret2
                refine stays_no ?_ (by decide) (HBW.out.trans ((H5.out.2.1.trans (Keep.of_below (S := []) B6.out) (by simp)).below HBW.out.size (by simp)))
                unfold staysE
                rw [if_neg (by rw [HV.out.1]; decide), if_neg (by rw [HTT.out.1]; decide), if_pos (stays_bad hlt (by rw [← HI.out.2.2.2.2.1, HT2.out.2]; simp [e2]))]
              · go_wp2_with (first | (go_at_call 92; refine HT2.out.1.mono ?_; rintro e w6 ⟨rfl, b6⟩; have m26 := (b6.cell (p := ⟨mb, 2, none⟩) zm).trans m2; have zm6 := Nat.lt_of_lt_of_le zm b6.size; have B6 := Lib.hid (And.intro (H5.out.2.1.trans (Keep.of_below (S := []) b6) (by simp)) (H5.out.1.keepS (Keep.of_below (S := []) b6) (by simp))); clear b6) | (at_builtin; refine wpList_append_A rfl (.tmp 85) (.tmp 88) 33 rfl iI _ 8 Try.underlying33 hI0 hI1 hI2 hI3 rfl (A := Ao) (n := k) (c := co) (xs := ints (((folds p l).map (·.most)).take k)) (fp := q) (by simp [Act.eval]) _ (by simp [Act.eval]) (.int .i64 mo) (B6.out.2.alloc _) (cell_new_one _ _ _) rfl (by omega) (by omega) ?_; intro g off' c' w6 e1 e2 e3 e4; have HQ := Lib.hid (And.intro e1 (And.intro e2 e4)); clear e1 e2 e3 e4))
                go_roundg (gk - 1)
                case measure => omega
                case rel =>
                  obtain ⟨h1, h2, h3, h4, h5, h6⟩ := HI.out
                  obtain ⟨f1, f2, f4⟩ := HQ.out
                  have hmo : (foldS p l (k : Int)).most = mo := by rw [← h5]
                  refine ⟨k + 1, some ⟨g, off', none⟩, c', [g], by omega, by go_num, rfl, by rw [folds_most hlt, hmo]; simpa [ints] using f1, ?_, ((h3.trans B6.out.1 (by simp)).alloc _).trans f4 (fun y hy => .inr (h2 y hy)), ?_⟩
                  · intro y hy
                    rw [List.mem_singleton.1 hy]
                    rcases f2 with f2 | f2
                    · exact h2 _ f2
                    · have := h3.size; have := B6.out.1.size; simp at f2; omega
                  · intro j hj
                    by_cases ej : j = k
                    · subst ej; rw [← h5, HT2.out.2]; simp; omega
                    · exact h4 j (by omega)
          · obtain rfl : k = p.chs.length := by omega
            have HLL := Lib.hid (And.intro hown (And.intro hq (And.intro hK (And.intro hgood B4.bel))))
            clear hown hq hK hgood B4
            go_wp2_with fail
            go_ret2
            have e0 : staysE p l = 0 := by
              unfold staysE
              rw [if_neg (by rw [HV.out.1]; decide), if_neg (by rw [HTT.out.1]; decide), if_neg (by rw [stays_ok HLL.out.2.2.2.1]; decide)]
            have ev : staysV p l = ((folds p l).map (·.most)).take p.chs.length := by
              unfold staysV
              rw [if_pos e0, List.take_of_length_le (by rw [List.length_map, folds_length]; omega)]
            have el : (staysV p l).length = p.chs.length := by rw [ev, List.length_take, List.length_map, folds_length]; omega
            exact ⟨Ao, co, q, by rw [el, e0]; rfl, by rw [el, ev]; exact HLL.out.1, fun g hg => Nat.le_trans H2.out.bel.size (HLL.out.2.1 g hg), HLL.out.2.2.2.2⟩
  · have hne : (er != 0) = true := by simp [h0]
    have hse : staysE p l = er := by unfold staysE; rw [if_pos (by rw [← HB.out.2.1]; exact h0), HB.out.2.1]
    have HC := Lib.hid (And.intro hse h0)
    clear hse h0
    go_wp2_with (go_at_call 53; refine HB.out.2.2.mono ?_; rintro e w1 ⟨rfl, b1⟩; have H1 := Lib.hid (HB.out.1.bel.trans (b1.mono HB.out.1.bel.size)); clear b1)
    go_ret2
    exact stays_no HC.out.1 HC.out.2 H1.out
end Go.Proofs.Ythmldeningpjbaa
/- polynyaref09: Worn -/
namespace Go.Proofs.Ythmldeningpjbaa
open Go Go.RowKit Sp Pt
set_option linter.unusedVariables false
set_option linter.unusedSimpArgs false

set_option maxRecDepth 100000 in
set_option maxHeartbeats 4000000 in
theorem rWorn_any (D : Nat) (Ac : Option Addr) (cc : Nat) (Ab : Option Addr) (cb : Nat) (p : Prt) (Al : Option Addr) (cl : Nat) (As : Option Addr) (cs : Nat) (l : Pln) (w : World) (PB : PrtB D w Ac cc Ab cb p) (LB : PlnB D w Al cl As cs l) (hD : D ≤ w.heap.size) :
    Calls Try.prog 39 #[.agg (prtV Ac cc Ab cb p), .agg (plnV Al cl As cs l)] w (WornPost w p l) := by
  obtain ⟨W, hW⟩ : ∃ W, W = (w.alloc (.cells (prtV Ac cc Ab cb p) 79)).alloc (.cells (plnV Al cl As cs l) 85) := ⟨_, rfl⟩
  obtain ⟨pb, hpb⟩ : ∃ pb, pb = w.heap.size := ⟨_, rfl⟩
  obtain ⟨lb, hlb⟩ : ∃ lb, lb = w.heap.size + 1 := ⟨_, rfl⟩
  have B0 : BxT 79 85 w W pb lb D Ac cc Ab cb p Al cl As cs l := by
    have b0 : Below w.heap.size w W := by rw [hW]; exact ((Below.refl _ _).alloc (Nat.le_refl _) _).alloc (by simp) _
    refine ⟨b0, by rw [hW, hpb]; exact heap_alloc' (heap_alloc_new _ _) _, ?_, PB.below (b0.mono hD), LB.below (b0.mono hD), by have := b0.size; omega⟩
    rw [hW, hlb]
    have := heap_alloc_new (w.alloc (.cells (prtV Ac cc Ab cb p) 79)) (.cells (plnV Al cl As cs l) 85)
    rwa [World.size_alloc] at this
  obtain ⟨er, her⟩ : ∃ er, er = checkL p l := ⟨_, rfl⟩
  have kck : Calls Try.prog 53 #[.agg (prtV Ac cc Ab cb p), .agg (plnV Al cl As cs l)] W _ := rCheckPlan_any D Ac cc Ab cb p Al cl As cs l W B0.PB B0.LB B0.hD
  rw [← her] at kck
  have HB := Lib.hid (And.intro B0 (And.intro her kck))
  obtain ⟨c0, c1, c2, zp, c3, c4, c5, zl⟩ := B0.cells
  clear B0 her kck PB LB
  go_enter Try.func39, Try.ntmps39
  go_upto_region 1 with fail
  rw [← hW, ← hlb, ← hpb]
  clear hW hlb hpb
  by_cases h0 : er = 0
  · subst h0
    go_upto_region 4 with (go_at_call 53; refine HB.out.2.2.mono ?_; rintro e w1 ⟨rfl, b1⟩; have H1 := Lib.hid (HB.out.1.below b1); clear b1)
    clear c0 c1 c2 zp c3 c4 c5 zl
    obtain ⟨c0, c1, c2, zp, c3, c4, c5, zl⟩ := H1.out.cells
    have hck : checkL p l = 0 := HB.out.2.1.symm
    have v := val_of hck
    have hnc := v.nc
    have HV := Lib.hid (And.intro hck v)
    clear hck v
    go_wp2_with fail
    clear c0 c1 c2 zp c3 c4 c5 zl
    go_loopg [8, 9, 10] (p.chs.length) (fun g le at_ i wr => ∃ (k : Nat), g + k = p.chs.length ∧ i = .int .i64 k ∧ le = .int .i64 (wornN (folds p l) k).1 ∧ at_ = .int .i64 (wornN (folds p l) k).2 ∧ Below w1.heap.size w1 wr)
    case atStart => exact ⟨0, rfl, rfl, rfl, rfl, Below.refl _ _⟩
    case round =>
      obtain ⟨k, hk, rfl, rfl, rfl, hB⟩ := hrel
      have B4 := H1.out.below hB
      obtain ⟨c0, c1, c2, zp, c3, c4, c5, zl⟩ := B4.cells
      obtain ⟨le, hle⟩ : ∃ x, x = (wornN (folds p l) k).1 := ⟨_, rfl⟩
      obtain ⟨at_, hat⟩ : ∃ x, x = (wornN (folds p l) k).2 := ⟨_, rfl⟩
      rw [← hle, ← hat]
      by_cases hlt : k < p.chs.length
      · have kf := rfold_any D Ac cc Ab cb p Al cl As cs l k wr B4.PB B4.LB B4.hD HV.out.2 hlt
        have hsucc := worn_succ (l := l) hlt
        obtain ⟨m, hm⟩ : ∃ m, m = foldS p l (k : Int) := ⟨_, rfl⟩
        have hj := foldS_jm HV.out.2 (c := (k : Int)) (by omega) (by omega)
        rw [← hm] at kf hj hsucc
        obtain ⟨ad, fl, mo⟩ := m
        rw [← hle] at hsucc
        have HI := Lib.hid (And.intro hsucc (And.intro hB (And.intro kf (And.intro hj (And.intro hle hat)))))
        clear hsucc hB kf hj hm B4 hle hat
        go_upto_region 9 with (go_at_call 91; refine HI.out.2.2.1.mono ?_; rintro e w4 ⟨rfl, b4⟩; have B4 := Lib.hid b4; clear b4)
        obtain ⟨W5, hW5⟩ : ∃ W5, W5 = w4.alloc (.cells #[.int .i64 ad, .int .i64 fl, .int .i64 mo] 95) := ⟨_, rfl⟩
        obtain ⟨mb, hmb⟩ : ∃ b, b = w4.heap.size := ⟨_, rfl⟩
        have hh : W5.heap[mb]? = some (.cells #[.int .i64 ad, .int .i64 fl, .int .i64 mo] 95 (0, 0)) := by rw [hW5, hmb]; exact heap_alloc_new _ _
        have m0 : W5.cell? ⟨mb, 0, none⟩ = some (.int .i64 ad) := (cell_of_heap hh 0).trans rfl
        have m1 : W5.cell? ⟨mb, 1, none⟩ = some (.int .i64 fl) := (cell_of_heap hh 1).trans rfl
        have m2 : W5.cell? ⟨mb, 2, none⟩ = some (.int .i64 mo) := (cell_of_heap hh 2).trans rfl
        have zm := heap_lt hh
        have hb5 : Below w1.heap.size w1 W5 := by rw [hW5]; exact (HI.out.2.1.trans (B4.out.mono HI.out.2.1.size)).alloc (by have := HI.out.2.1.size; have := B4.out.size; omega) _
        have H5 := Lib.hid hb5
        rw [← hW5, ← hmb]
        clear hW5 hmb hh hb5 c0 c1 c2 zp c3 c4 c5 zl
        by_cases e1 : mo = 1000000000
        · have e1b : (mo == 1000000000) = true := by simpa using e1
          have hr : rounds ⟨ad, fl, mo⟩ = -1 := by unfold rounds; rw [if_pos (.inl (by simp only [NL]; exact e1))]
          have HN : Hid (wornN (folds p l) (k + 1) = wornN (folds p l) k) := Lib.hid (by rw [HI.out.1, if_neg (by rw [hr]; omega)])
          clear e1 hr
          go_wp2_with fail
          go_roundg (gk - 1)
          case measure => omega
          case rel => exact ⟨k + 1, by omega, by go_num, by rw [HN.out, HI.out.2.2.2.2.1], by rw [HN.out, HI.out.2.2.2.2.2], H5.out⟩
        · have e1b : (mo == 1000000000) = false := by simpa using e1
          obtain ⟨t, ht⟩ : ∃ t, t = rounds ⟨ad, fl, mo⟩ := ⟨_, rfl⟩
          have kt : Calls Try.prog 92 #[.agg #[.int .i64 ad, .int .i64 fl, .int .i64 mo], .int .i64 0] W5 fun e w' => e = .returned (.int .i64 t) ∧ Below W5.heap.size W5 w' := by
            obtain ⟨⟨a, a'⟩, ⟨b, b'⟩, d, e, f⟩ := HI.out.2.2.2.1
            simp only [NL] at *
            rw [ht, ← times_rounds (m := ⟨ad, fl, mo⟩) (g := 10000003) (by simp only [NL]; exact e1) (by simp only; omega) (by simp only; omega)]
            exact rtimes_any ⟨ad, fl, mo⟩ 0 W5 (by simp only; omega) (by simp only; omega) (by simp only; omega) (by omega)
          have hs := HI.out.1
          rw [← ht] at hs
          have HT2 := Lib.hid (And.intro kt hs)
          clear kt ht hs e1
          by_cases e2 : 0 ≤ t
          · by_cases e3 : le < 0
            · have HN : Hid (wornN (folds p l) (k + 1) = (t, (k : Int))) := Lib.hid (by rw [HT2.out.2, if_pos ⟨e2, .inl e3⟩])
              have d1 : decide (le < 0) = true := by simpa using e3
              go_wp2_with (go_at_call 92; refine HT2.out.1.mono ?_; rintro e w6 ⟨rfl, b6⟩; have B6 := Lib.hid (H5.out.trans (b6.mono H5.out.size)); clear b6)
              go_roundg (gk - 1)
              case measure => omega
              case rel => exact ⟨k + 1, by omega, by go_num, by rw [HN.out], by rw [HN.out], B6.out⟩
            · have d1 : decide (le < 0) = false := by simpa using e3
              by_cases e4 : t < le
              · have HN : Hid (wornN (folds p l) (k + 1) = (t, (k : Int))) := Lib.hid (by rw [HT2.out.2, if_pos ⟨e2, .inr e4⟩])
                go_wp2_with (go_at_call 92; refine HT2.out.1.mono ?_; rintro e w6 ⟨rfl, b6⟩; have B6 := Lib.hid (H5.out.trans (b6.mono H5.out.size)); clear b6)
                go_roundg (gk - 1)
                case measure => omega
                case rel => exact ⟨k + 1, by omega, by go_num, by rw [HN.out], by rw [HN.out], B6.out⟩
              · have HN : Hid (wornN (folds p l) (k + 1) = wornN (folds p l) k) := Lib.hid (by rw [HT2.out.2, if_neg (by rintro ⟨_, h | h⟩ <;> omega)])
                go_wp2_with (go_at_call 92; refine HT2.out.1.mono ?_; rintro e w6 ⟨rfl, b6⟩; have B6 := Lib.hid (H5.out.trans (b6.mono H5.out.size)); clear b6)
                go_roundg (gk - 1)
                case measure => omega
                case rel => exact ⟨k + 1, by omega, by go_num, by rw [HN.out, HI.out.2.2.2.2.1], by rw [HN.out, HI.out.2.2.2.2.2], B6.out⟩
          · have HN : Hid (wornN (folds p l) (k + 1) = wornN (folds p l) k) := Lib.hid (by rw [HT2.out.2, if_neg (by rintro ⟨h, _⟩; exact e2 h)])
            go_wp2_with (go_at_call 92; refine HT2.out.1.mono ?_; rintro e w6 ⟨rfl, b6⟩; have B6 := Lib.hid (H5.out.trans (b6.mono H5.out.size)); clear b6)
            go_roundg (gk - 1)
            case measure => omega
            case rel => exact ⟨k + 1, by omega, by go_num, by rw [HN.out, HI.out.2.2.2.2.1], by rw [HN.out, HI.out.2.2.2.2.2], B6.out⟩
      · obtain rfl : k = p.chs.length := by omega
        have HLL := Lib.hid (And.intro B4.bel (And.intro hle hat))
        clear hB B4 hle hat
        by_cases e1 : le < 0
        · have he : wornE p l = 4 := by unfold wornE; rw [if_neg (by rw [HV.out.1]; decide), if_pos (by rw [wornR, ← HLL.out.2.1]; exact e1)]
          have HE := Lib.hid he
          clear he
          go_wp2_with fail
          refine bodyPost_ret (results_tmp3P rfl _ _ _) rfl ?_
          exact worn_no HE.out (by decide) HLL.out.1
        · have he : wornE p l = 0 := by unfold wornE; rw [if_neg (by rw [HV.out.1]; decide), if_neg (by rw [wornR, ← HLL.out.2.1]; exact e1)]
          have HE := Lib.hid he
          clear he
          go_wp2_with fail
          refine bodyPost_ret (results_tmp3P rfl _ _ _) rfl ?_
          exact ⟨by unfold wornV wornA; rw [if_pos HE.out, if_pos HE.out, HE.out, wornR, ← HLL.out.2.1, ← HLL.out.2.2]; rfl, HLL.out.1⟩
  · have hne : (er != 0) = true := by simp [h0]
    have hse : wornE p l = er := by unfold wornE; rw [if_pos (by rw [← HB.out.2.1]; exact h0), HB.out.2.1]
    have HC := Lib.hid (And.intro hse h0)
    clear hse h0
    go_wp2_with (go_at_call 53; refine HB.out.2.2.mono ?_; rintro e w1 ⟨rfl, b1⟩; have H1 := Lib.hid (HB.out.1.bel.trans (b1.mono HB.out.1.bel.size)); clear b1)
    refine bodyPost_ret (results_tmp3P rfl _ _ _) rfl ?_
    exact worn_no HC.out.1 HC.out.2 H1.out
end Go.Proofs.Ythmldeningpjbaa
