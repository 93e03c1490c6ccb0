/- polynyaref13.Told -/
import Derived.Test.YtaokegobilphnaaGreatDoorLLp7
import Derived.BigQuiet
set_option linter.unusedVariables false
set_option linter.unusedSimpArgs false
namespace Go.Proofs.YtaokegobilphnaaGreatDoor
open Go Go.RowKit Go.Shelf Go.Proofs Sp Lg
set_option linter.unusedVariables false
set_option linter.unusedSimpArgs false

theorem join_flat {α : Type} (f : α → By) : ∀ (l : List α), (if l = [] then [] else 32 :: joinS (l.map f)) = l.flatMap (fun a => 32 :: f a)
  | [] => rfl
  | [x] => by simp [joinS]
  | x :: y :: r => by
    have h := join_flat f (y :: r)
    rw [if_neg (by simp)] at h ⊢
    rw [List.map_cons, Lg.join_cons (by simp), List.flatMap_cons, ← h]
    simp
theorem flatS_len {α : Type} (f : α → By) (m : Nat) : ∀ (l : List α), (∀ a ∈ l, (f a).length ≤ m) → (l.flatMap (fun a => 32 :: f a)).length ≤ l.length * (m + 1)
  | [], _ => by simp
  | a :: l, h => by
    have h1 := flatS_len f m l (fun b hb => h b (by simp [hb]))
    have h2 := h a (by simp)
    rw [List.flatMap_cons, List.length_append, List.length_cons, List.length_cons, Nat.add_mul]
    omega
theorem hd3_len {x : Ent} (h : OkE x) : (hd3 x).length ≤ 100 := by
  have h1 := joinS_len [decI x.minute, decI x.ship] 13 (fun f hf => by simp only [List.mem_cons, List.not_mem_nil, or_false] at hf; rcases hf with rfl | rfl; exact decI_len ((okE_nat h).2 _ (by simp)); exact decI_len ((okE_nat h).2 _ (by simp)))
  have h2 := h.v
  unfold hd3
  simp at h1 ⊢; omega
set_option maxRecDepth 100000 in
set_option maxHeartbeats 4000000 in
theorem rTold_any (x : Ent) (A : Option Addr) (c : Nat) (w : World) (hx : OkE x) (hr : Rd w 1 A x.args.length (ints x.args)) :
    Calls Tryz.prog 52 #[.agg (entC x A c)] w fun e w' => e = .returned (.string (bs (told x))) ∧ Below w.heap.size w w' := by
  have hD2 := told_parts x
  rw [join_flat] at hD2
  obtain ⟨V, hV⟩ : ∃ V, V = bs x.verb := ⟨_, rfl⟩
  obtain ⟨N, hN⟩ : ∃ N, N = bs x.note := ⟨_, rfl⟩
  obtain ⟨n, hn⟩ : ∃ n, n = x.args.length := ⟨_, rfl⟩
  obtain ⟨m, hm⟩ : ∃ m : Nat, x.minute = m := ⟨x.minute.toNat, by have := hx.m; omega⟩
  obtain ⟨p, hp⟩ : ∃ m : Nat, x.ship = m := ⟨x.ship.toNat, by have := hx.s; omega⟩
  obtain ⟨D1, hD1⟩ : ∃ D, D = bs (decI m) := ⟨_, rfl⟩
  obtain ⟨Dp, hDp⟩ : ∃ D, D = bs (decI p) := ⟨_, rfl⟩
  have z0 : (⟨#[32]⟩ : ByteArray).size = 1 := rfl
  have z1 : D1.size ≤ 100 := by rw [hD1, bs_size]; have := decI_len ((okE_nat hx).2 x.minute (by simp)); rw [hm] at this; omega
  have zp : Dp.size ≤ 100 := by rw [hDp, bs_size]; have := decI_len ((okE_nat hx).2 x.ship (by simp)); rw [hp] at this; omega
  have z2 : V.size ≤ 100 := by rw [hV, bs_size]; have := hx.v; omega
  have hnl : n ≤ 4 := by rw [hn]; exact hx.a
  have hen : entC x A c = #[.int .i64 m, .int .i64 p, .string V, .slice A n c, .string N] := by unfold entC; rw [hm, hp, hV, hn, hN]
  rw [hen]
  obtain ⟨W1, hW1⟩ : ∃ W, W = w.alloc (.cells #[.int .i64 m, .int .i64 p, .string V, .slice A n c, .string N] 26) := ⟨_, rfl⟩
  obtain ⟨xb, hxb⟩ : ∃ b, b = w.heap.size := ⟨_, rfl⟩
  have hb1 : W1.heap[xb]? = some (.cells #[.int .i64 m, .int .i64 p, .string V, .slice A n c, .string N] 26 (0, 0)) := by rw [hW1, hxb]; exact heap_alloc_new _ _
  have B1 : Below w.heap.size w W1 := by rw [hW1]; exact (Below.refl _ _).alloc (Nat.le_refl _) _
  have hrW := hr.below B1
  rw [← hn] at hrW
  have KD := Lib.hid (fun (k : Nat) (hk : k < 10 ^ 18) (W : World) => rDec1_any k hk W)
  have hmk : m < 10 ^ 18 ∧ p < 10 ^ 18 := by
    have h1 := hx.m
    have h2 := hx.s
    rw [hm] at h1; rw [hp] at h2
    exact ⟨Nat.lt_of_le_of_lt (m := 1000000) (by omega) (by decide), Nat.lt_of_le_of_lt (m := 40) (by omega) (by decide)⟩
  have H := Lib.hid (And.intro B1 (And.intro hb1 (And.intro hD2 (And.intro hrW (And.intro hx (And.intro hn (And.intro hm (And.intro hp (And.intro hV (And.intro hN (And.intro hD1 (And.intro hDp hmk))))))))))))
  have zb := heap_lt hb1
  have x0 := (cell_of_heap hb1 0).trans rfl
  have x1 := (cell_of_heap hb1 1).trans rfl
  have x2 := (cell_of_heap hb1 2).trans rfl
  have x3 := (cell_of_heap hb1 3).trans rfl
  have x4 := (cell_of_heap hb1 4).trans rfl
  have k1 : ∀ u, Calls Tryz.prog 70 #[.int .i64 m] (W1.drewN u) fun e w' => e = .returned (.string D1) ∧ w' = W1.drewN u := fun u => (KD.out m hmk.1 _).mono fun e w' h => ⟨by rw [hD1]; exact h.1, h.2.symm⟩
  have k2 : ∀ u, Calls Tryz.prog 70 #[.int .i64 p] (W1.drewN u) fun e w' => e = .returned (.string Dp) ∧ w' = W1.drewN u := fun u => (KD.out p hmk.2 _).mono fun e w' h => ⟨by rw [hDp]; exact h.1, h.2.symm⟩
  have K := Lib.hid (And.intro k1 k2)
  clear B1 hb1 hD2 hrW hx hn hm hp hV hN hD1 hDp hmk k1 k2 hr hen
  have a1 := addStr (x := D1) (y := ⟨#[32]⟩) (by omega)
  have a2 := addStr (x := D1 ++ ⟨#[32]⟩) (y := Dp) (by rw [ByteArray.size_append]; omega)
  have a3 := addStr (x := D1 ++ ⟨#[32]⟩ ++ Dp) (y := ⟨#[32]⟩) (by rw [ByteArray.size_append, ByteArray.size_append]; omega)
  have a4 := addStr (x := D1 ++ ⟨#[32]⟩ ++ Dp ++ ⟨#[32]⟩) (y := V) (by rw [ByteArray.size_append, ByteArray.size_append, ByteArray.size_append]; omega)
  go_enter Tryz.func52, Tryz.ntmps52
  go_upto_region 1 with fail
  rw [← hW1, ← hxb]
  clear hW1 hxb
  go_quiet ((first | (go_at_call 70; with_reducible exact Calls.quiet_of_same (K.out.2 _)) | (go_at_call 70; with_reducible exact Calls.quiet_of_same (K.out.1 _))))
  obtain ⟨W2, hW2⟩ : ∃ W, W = W1.drewN nq := ⟨_, rfl⟩
  have y3 : W2.cell? ⟨xb, 3, none⟩ = some (.slice A n c) := by rw [hW2]; exact x3
  have y4 : W2.cell? ⟨xb, 4, none⟩ = some (.string N) := by rw [hW2]; exact x4
  have B2 : Below w.heap.size w W2 := by rw [hW2]; exact below_drewN H.out.1 _
  have zb2 : xb < W2.heap.size := by rw [hW2]; exact zb
  have hr2 : Rd W2 1 A n (ints x.args) := by rw [hW2]; exact H.out.2.2.2.1.below (below_drewN (Below.refl _ _) _)
  rw [← hW2]
  obtain ⟨S1, hS1⟩ : ∃ S, S = D1 ++ ⟨#[32]⟩ ++ Dp ++ ⟨#[32]⟩ ++ V := ⟨_, rfl⟩
  have hS2 : S1 = bs (hd3 x) := by
    rw [hS1, H.out.2.2.2.2.2.2.2.2.2.2.1, H.out.2.2.2.2.2.2.2.2.2.2.2.1, H.out.2.2.2.2.2.2.2.2.1, cat32', cat32']
    unfold hd3
    rw [H.out.2.2.2.2.2.2.1, H.out.2.2.2.2.2.2.2.1]
    rfl
  rw [← hS1, hS2]
  have H2 := Lib.hid (And.intro B2 hr2)
  clear hW2 B2 hr2 x0 x1 x2 x3 x4 a1 a2 a3 a4 hS1 hS2 zb K
  go_wp2_with fail
  go_loopg [3, 4] n (fun g s i wr => ∃ k : Nat, g + k = n ∧ i = .int .i64 k ∧ s = .string (bs (hd3 x ++ (x.args.take k).flatMap (fun a => 32 :: decI a))) ∧ wr = W2)
  case atStart => exact ⟨0, rfl, rfl, by simp, rfl⟩
  case round =>
    obtain ⟨k, hk, rfl, rfl, rfl⟩ := hrel
    by_cases hlt : k < n
    · obtain ⟨b, off, rfl, hb, hc⟩ := H2.out.2.2 (by omega)
      have hnl2 := H.out.2.2.2.2.2.1
      have hlt2 : k < x.args.length := by omega
      have hmem := H.out.2.2.2.2.1.aa x.args[k] (List.getElem_mem _)
      obtain ⟨a, ha⟩ : ∃ a : Nat, x.args[k] = a := ⟨x.args[k].toNat, by omega⟩
      have c0 := hc k (.int .i64 a) (by rw [ints_get hlt2]; simp [hlt2, ha])
      obtain ⟨S, hS⟩ : ∃ S, S = bs (hd3 x ++ (x.args.take k).flatMap (fun a => 32 :: decI a)) := ⟨_, rfl⟩
      have zS : S.size ≤ 1000 := by
        rw [hS, bs_size, List.length_append]
        have h1 := hd3_len H.out.2.2.2.2.1
        have h2 := flatS_len decI 13 (x.args.take k) (fun b hb => decI_len ((okE_nat H.out.2.2.2.2.1).1 b (List.mem_of_mem_take hb)))
        rw [List.length_take] at h2
        omega
      rw [← hS]
      obtain ⟨Da, hDa⟩ : ∃ D, D = bs (decI a) := ⟨_, rfl⟩
      have zD : Da.size ≤ 100 := by rw [hDa, bs_size]; have := decI_len (n := (a : Int)) (by omega); omega
      have kd : Calls Tryz.prog 70 #[.int .i64 a] wr fun e w' => e = .returned (.string Da) ∧ wr = w' := by
        rw [hDa]; exact KD.out a (Nat.lt_of_le_of_lt (m := 1000000) (by omega) (by decide)) wr
      have hnx : bs (hd3 x ++ (x.args.take (k + 1)).flatMap (fun a => 32 :: decI a)) = S ++ ⟨#[32]⟩ ++ Da := by
        rw [hS, hDa, cat32', List.take_succ_eq_append_getElem hlt2, List.flatMap_append, ha]
        simp
      have HN := Lib.hid (And.intro kd hnx)
      clear hc hS hDa kd hnx ha hmem hnl2 hb
      go_wp2_with (go_at_call 70; refine HN.out.1.mono ?_; rintro e w3 ⟨rfl, rfl⟩)
      go_roundg (gk - 1)
      case measure => omega
      case rel => exact ⟨k + 1, by omega, by go_num, by rw [HN.out.2], rfl⟩
    · obtain rfl : k = n := by omega
      rw [List.take_of_length_le (by have := H.out.2.2.2.2.2.1; omega)]
      obtain ⟨S, hS⟩ : ∃ S, S = bs (hd3 x ++ x.args.flatMap (fun a => 32 :: decI a)) := ⟨_, rfl⟩
      have zS : S.size ≤ 1000 := by
        rw [hS, bs_size, List.length_append]
        have h1 := hd3_len H.out.2.2.2.2.1
        have h2 := flatS_len decI 13 x.args (fun b hb => decI_len ((okE_nat H.out.2.2.2.2.1).1 b hb))
        have := H.out.2.2.2.2.1.a
        omega
      rw [← hS]
      have HS := Lib.hid hS
      clear hS
      by_cases hno : x.note = []
      · have hNe : N.toList.isEmpty = true := by rw [H.out.2.2.2.2.2.2.2.2.2.1, bs_empty]; exact decide_eq_true hno
        have HN := Lib.hid hno
        clear hno
        go_wp2_with fail
        go_ret
        refine ⟨?_, H2.out.1⟩
        rw [HS.out, H.out.2.2.1, if_pos HN.out]
        simp
      · have hNe : N.toList.isEmpty = false := by rw [H.out.2.2.2.2.2.2.2.2.2.1, bs_empty]; exact decide_eq_false hno
        have kq := rQuote_any N wr (by rw [H.out.2.2.2.2.2.2.2.2.2.1, bs_size]; have := H.out.2.2.2.2.1.n; omega)
        obtain ⟨Q, hQ⟩ : ∃ Q, Q = bs (quo x.note) := ⟨_, rfl⟩
        have zQ : Q.size ≤ 1000 := by rw [hQ, bs_size, quo_len]; have := (ones_len x.note).2; have := H.out.2.2.2.2.1.n; omega
        have kq2 : Calls Tryz.prog 25 #[.string N] wr fun e w' => e = .returned (.tuple #[.string Q, .int .i64 0]) ∧ Below wr.heap.size wr w' := by
          refine kq.mono ?_
          rintro e w' ⟨rfl, h2⟩
          refine ⟨?_, h2⟩
          have hN2 : N.data.toList = x.note := by rw [H.out.2.2.2.2.2.2.2.2.2.1]
          rw [hN2]
          unfold lgQuoV lgQuoE
          have := H.out.2.2.2.2.1.n
          rw [if_neg (by omega), if_neg (by omega), hQ]
        have HN := Lib.hid (And.intro hno (And.intro kq2 hQ))
        clear hno kq kq2 hQ
        go_wp2_with (go_at_call 25; refine HN.out.2.1.mono ?_; rintro e w3 ⟨rfl, b3⟩; have H3 := Lib.hid b3; clear b3)
        go_ret
        refine ⟨?_, H2.out.1.trans (H3.out.mono H2.out.1.size)⟩
        show Ending.returned (.string (S ++ ⟨#[32]⟩ ++ Q)) = _
        rw [HS.out, HN.out.2.2, cat32', H.out.2.2.1, if_neg HN.out.1]
end Go.Proofs.YtaokegobilphnaaGreatDoor
/- polynyaref13.wrong (printed by tools/lgs.py) -/
namespace Go.Proofs.YtaokegobilphnaaGreatDoor
open Go Go.RowKit Go.Shelf Go.Proofs Sp Lg
set_option linter.unusedVariables false
set_option linter.unusedSimpArgs false

set_option maxRecDepth 100000 in
set_option maxHeartbeats 4000000 in
theorem rWrong_any (x : Ent) (A : Option Addr) (c : Nat) (w : World) (hr : Rd w 1 A x.args.length (ints x.args)) (hv : x.verb.length ≤ 1000000) (hn : x.note.length ≤ 1000000) (ha : x.args.length ≤ 1000000) :
    Calls Tryz.prog 63 #[.agg (entC x A c)] w fun e w' => e = .returned (.bool (!okE x)) ∧ Below w.heap.size w w' := by
  obtain ⟨V, hV⟩ : ∃ V, V = bs x.verb := ⟨_, rfl⟩
  obtain ⟨N, hN⟩ : ∃ N, N = bs x.note := ⟨_, rfl⟩
  obtain ⟨n, hnn⟩ : ∃ n, n = x.args.length := ⟨_, rfl⟩
  obtain ⟨m, hm⟩ : ∃ m, m = x.minute := ⟨_, rfl⟩
  obtain ⟨p, hp⟩ : ∃ p, p = x.ship := ⟨_, rfl⟩
  have z2 : V.size ≤ 1000000 := by rw [hV, bs_size]; exact hv
  have z3 : N.size ≤ 1000000 := by rw [hN, bs_size]; exact hn
  have z4 : n ≤ 1000000 := by rw [hnn]; exact ha
  have hen : entC x A c = #[.int .i64 m, .int .i64 p, .string V, .slice A n c, .string N] := by unfold entC; rw [hm, hp, hV, hN, hnn]
  rw [hen]
  obtain ⟨T, hT⟩ : ∃ T, T = V.data.toList := ⟨_, rfl⟩
  have hres : okE x = ((decide (0 ≤ m) && decide (m ≤ 1000000)) && ((decide (0 ≤ p) && decide (p ≤ 40)) && (((decide (1 ≤ (V.size : Int)) && decide ((V.size : Int) ≤ 12)) && T.all isLow) && (decide (n ≤ 4) && (decide (N.size ≤ 40) && x.args.all fun n => inB n 0 1000000))))) := by
    have e1 : V.size = x.verb.length := by rw [hV, bs_size]
    have e2 : N.size = x.note.length := by rw [hN, bs_size]
    unfold okE
    rw [e1, e2, hm, hp, hnn, hT, hV]
    rfl
  obtain ⟨W1, hW1⟩ : ∃ W, W = w.alloc (.cells #[.int .i64 m, .int .i64 p, .string V, .slice A n c, .string N] 26) := ⟨_, rfl⟩
  obtain ⟨xb, hxb⟩ : ∃ b, b = w.heap.size := ⟨_, rfl⟩
  have hbl : W1.heap[xb]? = some (.cells #[.int .i64 m, .int .i64 p, .string V, .slice A n c, .string N] 26 (0, 0)) := by rw [hW1, hxb]; exact heap_alloc_new _ _
  have B1 : Below w.heap.size w W1 := by rw [hW1]; exact (Below.refl _ _).alloc (Nat.le_refl _) _
  have hrW := hr.below B1
  rw [← hnn] at hrW
  have hTl : T.length = V.size := by rw [hT]; exact Array.length_toList
  have H := Lib.hid (And.intro B1 (And.intro hrW (And.intro hres (And.intro hT (And.intro hTl hnn)))))
  have zb' := heap_lt hbl
  have x0 := (cell_of_heap hbl 0).trans rfl
  have x1 := (cell_of_heap hbl 1).trans rfl
  have x2 := (cell_of_heap hbl 2).trans rfl
  have x3 := (cell_of_heap hbl 3).trans rfl
  have x4 := (cell_of_heap hbl 4).trans rfl
  clear B1 hbl hres hT hTl hen hr hV hN hm hp hv hn ha hnn hrW
  go_enter Tryz.func63, Tryz.ntmps63
  go_upto_region 1 with fail
  rw [← hW1, ← hxb]
  clear hW1 hxb
  by_cases h0 : m < 0
  · have f0a : decide (m < 0) = true := decide_eq_true (by omega)
    have p0 := Lib.hid (show decide (0 ≤ m) = false from decide_eq_false (by omega))
    go_wp2_with fail
    go_ret
    exact ⟨by rw [H.out.2.2.1, p0.out]; simp, H.out.1⟩
  have f0a : decide (m < 0) = false := decide_eq_false (by omega)
  have p0 := Lib.hid (show decide (0 ≤ m) = true from decide_eq_true (by omega))
  by_cases h1 : 1000000 < m
  · have f1a : decide (1000000 < m) = true := decide_eq_true (by omega)
    have p1 := Lib.hid (show decide (m ≤ 1000000) = false from decide_eq_false (by omega))
    go_wp2_with fail
    go_ret
    exact ⟨by rw [H.out.2.2.1, p1.out]; simp, H.out.1⟩
  have f1a : decide (1000000 < m) = false := decide_eq_false (by omega)
  have p1 := Lib.hid (show decide (m ≤ 1000000) = true from decide_eq_true (by omega))
  by_cases h2 : p < 0
  · have f2a : decide (p < 0) = true := decide_eq_true (by omega)
    have p2 := Lib.hid (show decide (0 ≤ p) = false from decide_eq_false (by omega))
    go_wp2_with fail
    go_ret
    exact ⟨by rw [H.out.2.2.1, p2.out]; simp, H.out.1⟩
  have f2a : decide (p < 0) = false := decide_eq_false (by omega)
  have p2 := Lib.hid (show decide (0 ≤ p) = true from decide_eq_true (by omega))
  by_cases h3 : 40 < p
  · have f3a : decide (40 < p) = true := decide_eq_true (by omega)
    have p3 := Lib.hid (show decide (p ≤ 40) = false from decide_eq_false (by omega))
    go_wp2_with fail
    go_ret
    exact ⟨by rw [H.out.2.2.1, p3.out]; simp, H.out.1⟩
  have f3a : decide (40 < p) = false := decide_eq_false (by omega)
  have p3 := Lib.hid (show decide (p ≤ 40) = true from decide_eq_true (by omega))
  by_cases h4 : (V.size : Int) < 1
  · have f4a : decide ((V.size : Int) < 1) = true := decide_eq_true (by omega)
    have f4b : decide (V.size < 1) = true := decide_eq_true (by omega)
    have p4 := Lib.hid (show decide (1 ≤ (V.size : Int)) = false from decide_eq_false (by omega))
    go_wp2_with fail
    go_ret
    exact ⟨by rw [H.out.2.2.1, p4.out]; simp, H.out.1⟩
  have f4a : decide ((V.size : Int) < 1) = false := decide_eq_false (by omega)
  have f4b : decide (V.size < 1) = false := decide_eq_false (by omega)
  have p4 := Lib.hid (show decide (1 ≤ (V.size : Int)) = true from decide_eq_true (by omega))
  by_cases h5 : 12 < (V.size : Int)
  · have f5a : decide (12 < (V.size : Int)) = true := decide_eq_true (by omega)
    have f5b : decide (12 < V.size) = true := decide_eq_true (by omega)
    have p5 := Lib.hid (show decide ((V.size : Int) ≤ 12) = false from decide_eq_false (by omega))
    go_wp2_with fail
    go_ret
    exact ⟨by rw [H.out.2.2.1, p5.out]; simp, H.out.1⟩
  have f5a : decide (12 < (V.size : Int)) = false := decide_eq_false (by omega)
  have f5b : decide (12 < V.size) = false := decide_eq_false (by omega)
  have p5 := Lib.hid (show decide ((V.size : Int) ≤ 12) = true from decide_eq_true (by omega))
  by_cases h6 : 4 < (n : Int)
  · have f6a : decide (4 < (n : Int)) = true := decide_eq_true (by omega)
    have f6b : decide (4 < n) = true := decide_eq_true (by omega)
    have p6 := Lib.hid (show decide (n ≤ 4) = false from decide_eq_false (by omega))
    go_wp2_with fail
    go_ret
    exact ⟨by rw [H.out.2.2.1, p6.out]; simp, H.out.1⟩
  have f6a : decide (4 < (n : Int)) = false := decide_eq_false (by omega)
  have f6b : decide (4 < n) = false := decide_eq_false (by omega)
  have p6 := Lib.hid (show decide (n ≤ 4) = true from decide_eq_true (by omega))
  by_cases h7 : 40 < (N.size : Int)
  · have f7a : decide (40 < (N.size : Int)) = true := decide_eq_true (by omega)
    have f7b : decide (40 < N.size) = true := decide_eq_true (by omega)
    have p7 := Lib.hid (show decide (N.size ≤ 40) = false from decide_eq_false (by omega))
    go_wp2_with fail
    go_ret
    exact ⟨by rw [H.out.2.2.1, p7.out]; simp, H.out.1⟩
  have f7a : decide (40 < (N.size : Int)) = false := decide_eq_false (by omega)
  have f7b : decide (40 < N.size) = false := decide_eq_false (by omega)
  have p7 := Lib.hid (show decide (N.size ≤ 40) = true from decide_eq_true (by omega))
  clear f0a f1a f2a f3a f4a f4b f5a f5b f6a f6b f7a f7b
  obtain ⟨ar, har⟩ : ∃ a, a = x.args.all fun n => inB n 0 1000000 := ⟨_, rfl⟩
  have hok : okE x = (T.all isLow && ar) := by rw [H.out.2.2.1, har, p0.out, p1.out, p2.out, p3.out, p4.out, p5.out, p6.out, p7.out]; simp
  have HO := Lib.hid (And.intro hok har)
  clear hok har
  go_wp2_with fail
  go_loopg [3] V.size (fun g i wr => ∃ k : Nat, g + k = V.size ∧ i = .int .i64 k ∧ (T.take k).all isLow = true ∧ wr = W1)
  case atStart => exact ⟨0, rfl, rfl, by simp, rfl⟩
  case round =>
    obtain ⟨k, hk, rfl, hall, rfl⟩ := hrel
    by_cases hlt : k < V.size
    · have hlt2 : k < T.length := by have := H.out.2.2.2.2.1; omega
      have hnx : (T.take (k + 1)).all isLow = isLow V[k] := by
        rw [List.take_succ_eq_append_getElem hlt2, List.all_append, hall]
        have e : T[k] = V[k] := by have := H.out.2.2.2.1; subst this; rw [Array.getElem_toList]; rfl
        rw [e]; simp
      have hno : isLow V[k] = false → T.all isLow = false := fun h => by
        rw [h] at hnx
        rw [← List.take_append_drop (k + 1) T, List.all_append, hnx]; rfl
      have HN := Lib.hid (And.intro hnx hno)
      clear hnx hno hall
      by_cases h1 : V[k].toNat < 97
      · have g1 : decide ((V[k].toNat : Int) < 97) = true := decide_eq_true (by omega)
        go_wp2_with fail
        go_ret
        exact ⟨by rw [HO.out.1, HN.out.2 (by simp [isLow]; omega)]; rfl, H.out.1⟩
      · have g1 : decide ((V[k].toNat : Int) < 97) = false := decide_eq_false (by omega)
        by_cases h2 : 122 < V[k].toNat
        · have g2 : decide (122 < (V[k].toNat : Int)) = true := decide_eq_true (by omega)
          go_wp2_with fail
          go_ret
          exact ⟨by rw [HO.out.1, HN.out.2 (by simp [isLow]; omega)]; rfl, H.out.1⟩
        · have g2 : decide (122 < (V[k].toNat : Int)) = false := decide_eq_false (by omega)
          go_wp2_with fail
          go_roundg (gk - 1)
          case measure => omega
          case rel => exact ⟨k + 1, by omega, by go_num, by rw [HN.out.1]; simp [isLow]; omega, rfl⟩
    · obtain rfl : k = V.size := by omega
      rw [List.take_of_length_le (by have := H.out.2.2.2.2.1; omega)] at hall
      have hok2 : okE x = ar := by rw [HO.out.1, hall]; rfl
      have HA := Lib.hid (And.intro hok2 HO.out.2)
      clear hall hok2
      go_wp2_with fail
      go_loopg [4] n (fun g i wx => ∃ k : Nat, g + k = n ∧ i = .int .i64 k ∧ (x.args.take k).all (fun n => inB n 0 1000000) = true ∧ wx = wr)
      case atStart => exact ⟨0, rfl, rfl, by simp, rfl⟩
      case round =>
        obtain ⟨k, hk, rfl, hall, rfl⟩ := hrel
        by_cases hlt : k < n
        · obtain ⟨b, off, rfl, hb, hc⟩ := H.out.2.1.2 (by omega)
          have hlt2 : k < x.args.length := by have := H.out.2.2.2.2.2; omega
          have c0 := hc k (.int .i64 x.args[k]) (by rw [ints_get hlt2]; simp [hlt2])
          obtain ⟨a, ha⟩ : ∃ a, a = x.args[k] := ⟨_, rfl⟩
          rw [← ha] at c0
          have hnx : (x.args.take (k + 1)).all (fun n => inB n 0 1000000) = inB a 0 1000000 := by
            rw [List.take_succ_eq_append_getElem hlt2, List.all_append, hall, ← ha]; simp
          have hno : inB a 0 1000000 = false → ar = false := fun h => by
            rw [h] at hnx
            rw [HA.out.2, ← List.take_append_drop (k + 1) x.args, List.all_append, hnx]; rfl
          have HN := Lib.hid (And.intro hnx hno)
          clear hnx hno hall hc ha hb hlt2
          by_cases h1 : a < 0
          · have g1 : decide (a < 0) = true := decide_eq_true (by omega)
            go_wp2_with fail
            go_ret
            exact ⟨by rw [HA.out.1, HN.out.2 (by simp [inB]; omega)]; rfl, H.out.1⟩
          · have g1 : decide (a < 0) = false := decide_eq_false (by omega)
            by_cases h2 : 1000000 < a
            · have g2 : decide (1000000 < a) = true := decide_eq_true (by omega)
              go_wp2_with fail
              go_ret
              exact ⟨by rw [HA.out.1, HN.out.2 (by simp [inB]; omega)]; rfl, H.out.1⟩
            · have g2 : decide (1000000 < a) = false := decide_eq_false (by omega)
              go_wp2_with fail
              go_roundg (gk - 1)
              case measure => omega
              case rel => exact ⟨k + 1, by omega, by go_num, by rw [HN.out.1]; simp [inB]; omega, rfl⟩
        · obtain rfl : k = n := by omega
          rw [List.take_of_length_le (by have := H.out.2.2.2.2.2; omega)] at hall
          go_wp2_with fail
          go_ret
          exact ⟨by rw [HA.out.1, HA.out.2, hall]; rfl, H.out.1⟩
end Go.Proofs.YtaokegobilphnaaGreatDoor
/- Lists of entries in memory; log.Check, polynyaref13.Check -/
namespace Go.Proofs.YtaokegobilphnaaGreatDoor
open Go Go.RowKit Go.Shelf Go.Proofs Sp Lg
set_option linter.unusedVariables false
set_option linter.unusedSimpArgs false

/-- an entry, and where its numbers lie -/
structure EnM where
  x : Ent
  A : Option Addr
  c : Nat
def entL (e : EnM) : List Value := [.int .i64 e.x.minute, .int .i64 e.x.ship, .string (bs e.x.verb), .slice e.A e.x.args.length e.c, .string (bs e.x.note)]
theorem entL_eq (e : EnM) : (entL e).toArray = entC e.x e.A e.c := rfl
def entsV (L : List EnM) : List Value := L.flatMap entL
theorem flatE_get : ∀ {l : List EnM} {k : Nat} (hk : k < l.length) {j : Nat} (hj : j < 5), (l.flatMap entL)[k*5 + j]? = (entL l[k])[j]?
  | [], k, hk, _, _ => absurd hk (by simp)
  | x :: l, 0, _, j, hj => by
    rw [List.flatMap_cons, Nat.zero_mul, Nat.zero_add, List.getElem?_append_left (by simpa [entL] using hj)]; rfl
  | x :: l, k + 1, hk, j, hj => by
    have e : (k+1)*5 + j = 5 + (k*5 + j) := by omega
    rw [List.flatMap_cons, e, List.getElem?_append_right (by simp [entL]), show (entL x).length = 5 from rfl, Nat.add_sub_cancel_left]
    simpa using flatE_get (l := l) (k := k) (by simpa using hk) hj
theorem entsV_len : ∀ (L : List EnM), (entsV L).length = L.length * 5
  | [] => rfl
  | e :: L => by
    have := entsV_len L
    unfold entsV at this ⊢
    rw [List.flatMap_cons, List.length_append, this, List.length_cons, show (entL e).length = 5 from rfl]; omega
theorem entsV_snoc (L : List EnM) (e : EnM) : entsV L ++ entL e = entsV (L ++ [e]) := by simp [entsV]
/-- where the numbers of the entries lie -/
def EnsOk (w : World) (L : List EnM) : Prop := ∀ e ∈ L, Rd w 1 e.A e.x.args.length (ints e.x.args)
def EnsSm (L : List EnM) : Prop := ∀ e ∈ L, e.x.verb.length ≤ 1000000 ∧ e.x.note.length ≤ 1000000 ∧ e.x.args.length ≤ 1000000
theorem EnsOk.below {w w' : World} {L : List EnM} (h : EnsOk w L) (hb : Below w.heap.size w w') : EnsOk w' L := fun e he => (h e he).below hb
def exs (L : List EnM) : List Ent := L.map (·.x)
/-- the error of the first k entries -/
def ckN (l : List Ent) : Nat → Int
  | 0 => 0
  | k + 1 => if ckN l k ≠ 0 then ckN l k else if okE (l.getD k default) = false then 140 else if 0 < k ∧ (l.getD k default).minute < (l.getD (k - 1) default).minute then 11 else 0
theorem ckN_stay (l : List Ent) {k : Nat} {e : Int} (h0 : e ≠ 0) (h : ckN l k = e) : ∀ n, k ≤ n → ckN l n = e := by
  intro n hn
  induction n with
  | zero => obtain rfl : k = 0 := by omega
            exact h
  | succ n ih =>
    by_cases hk : k = n + 1
    · rw [← hk]; exact h
    · rw [ckN, ih (by omega), if_pos h0]
def ckL (l : List Ent) : Int := if 500 < l.length then 2 else ckN l l.length
theorem ckL_ok {l : List Ent} (h : ckL l = 0) : l.length ≤ 500 ∧ ∀ x ∈ l, OkE x := by
  unfold ckL at h
  split at h
  · cases h
  · rename_i hl
    refine ⟨by omega, fun x hx => ?_⟩
    obtain ⟨k, hk, rfl⟩ := List.mem_iff_getElem.1 hx
    have h1 : ckN l (k + 1) = 0 := by
      by_cases h2 : ckN l (k + 1) = 0
      · exact h2
      · exact absurd (ckN_stay l h2 rfl l.length (by omega)) (by rw [h]; exact fun e => h2 e.symm)
    rw [ckN] at h1
    split at h1
    · rename_i h2; exact absurd h1 h2
    · split at h1
      · cases h1
      · rename_i h3
        have e : l.getD k default = l[k] := by simp [hk]
        rw [e] at h3
        exact okE_iff.1 (by simpa using h3)
set_option maxRecDepth 100000 in
set_option maxHeartbeats 4000000 in
theorem gCheck_any (L : List EnM) (A : Option Addr) (c : Nat) (w : World) (hr : Rd w 5 A L.length (entsV L)) (hE : EnsOk w L) (hS : EnsSm L) (hl : L.length ≤ 1000000) :
    Calls Tryz.prog 11 #[.slice A L.length c] w fun e w' => e = .returned (.int .i64 (ckL (exs L))) ∧ Below w.heap.size w w' := by
  have hxl : (exs L).length = L.length := by simp [exs]
  obtain ⟨n, hn⟩ : ∃ n, n = L.length := ⟨_, rfl⟩
  rw [← hn]
  rw [← hn] at hr hl hxl
  have H := Lib.hid (And.intro hr (And.intro hE (And.intro hS (And.intro hxl hn))))
  clear hr hE hS hxl hn
  by_cases h5 : 500 < n
  · have f5 : decide ((500 : Int) < (n : Int)) = true := decide_eq_true (by omega)
    go_enter Tryz.func11, Tryz.ntmps11
    go_wp2_with fail
    go_ret
    exact ⟨by unfold ckL; rw [H.out.2.2.2.1, if_pos h5]; rfl, Below.refl _ _⟩
  · have f5 : decide ((500 : Int) < (n : Int)) = false := decide_eq_false (by omega)
    have hck : ckL (exs L) = ckN (exs L) n := by unfold ckL; rw [H.out.2.2.2.1, if_neg h5]
    have HC := Lib.hid hck
    clear hck
    go_enter Tryz.func11, Tryz.ntmps11
    go_wp2_with fail
    go_loopg [3, 4, 5, 11] n (fun g a b d i wr => ∃ k : Nat, g + k = n ∧ i = .int .i64 k ∧ ckN (exs L) k = 0 ∧ Below w.heap.size w wr)
    case atStart => exact ⟨0, rfl, rfl, rfl, Below.refl _ _⟩
    case round =>
      obtain ⟨k, hk, rfl, h0, bb⟩ := hrel
      by_cases hlt : k < n
      · have hkL : k < L.length := by have := H.out.2.2.2.2; omega
        obtain ⟨b, off, rfl, hb, hc⟩ := H.out.1.2 (by omega)
        have zb := Nat.lt_of_lt_of_le hb bb.size
        obtain ⟨E, hE⟩ : ∃ E, E = L[k] := ⟨_, rfl⟩
        have ct : ∀ j u, j < 5 → (entL E)[j]? = some u → wr.cell? ⟨b, off + k * 5 + j, none⟩ = some u := fun j u hj hu => by
          rw [Nat.add_assoc]
          exact (bb.cell (p := ⟨b, off + (k * 5 + j), none⟩) hb).trans (hc _ _ (by unfold entsV; rw [flatE_get hkL hj, ← hE]; exact hu))
        obtain ⟨m, hm⟩ : ∃ m, m = E.x.minute := ⟨_, rfl⟩
        obtain ⟨p, hp⟩ : ∃ m, m = E.x.ship := ⟨_, rfl⟩
        obtain ⟨V, hV⟩ : ∃ m, m = bs E.x.verb := ⟨_, rfl⟩
        obtain ⟨N, hN⟩ : ∃ m, m = bs E.x.note := ⟨_, rfl⟩
        obtain ⟨a, ha⟩ : ∃ m, m = E.x.args.length := ⟨_, rfl⟩
        obtain ⟨AA, hAA⟩ : ∃ m, m = E.A := ⟨_, rfl⟩
        obtain ⟨cc, hcc⟩ : ∃ m, m = E.c := ⟨_, rfl⟩
        have c0 : wr.cell? ⟨b, off + k * 5, none⟩ = some (.int .i64 m) := ct 0 _ (by decide) (by rw [hm]; rfl)
        have c1 : wr.cell? ⟨b, off + k * 5 + 1, none⟩ = some (.int .i64 p) := ct 1 _ (by decide) (by rw [hp]; rfl)
        have c2 : wr.cell? ⟨b, off + k * 5 + 2, none⟩ = some (.string V) := ct 2 _ (by decide) (by rw [hV]; rfl)
        have c3 : wr.cell? ⟨b, off + k * 5 + 3, none⟩ = some (.slice AA a cc) := ct 3 _ (by decide) (by rw [ha, hAA, hcc]; rfl)
        have c4 : wr.cell? ⟨b, off + k * 5 + 4, none⟩ = some (.string N) := ct 4 _ (by decide) (by rw [hN]; rfl)
        have hmem : E ∈ L := by rw [hE]; exact List.getElem_mem _
        obtain ⟨X, hX⟩ : ∃ X, X = wr.alloc (.cells #[.int .i64 m, .int .i64 p, .string V, .slice AA a cc, .string N] 93) := ⟨_, rfl⟩
        obtain ⟨xb, hxb⟩ : ∃ b, b = wr.heap.size := ⟨_, rfl⟩
        have bX : Below wr.heap.size wr X := by rw [hX]; exact (Below.refl _ _).alloc (Nat.le_refl _) _
        have gq : X.heap[xb]? = some (.cells #[.int .i64 m, .int .i64 p, .string V, .slice AA a cc, .string N] 93 (0, 0)) := by rw [hX, hxb]; exact heap_alloc_new _ _
        have q0 := (cell_of_heap gq 0).trans rfl
        have q1 := (cell_of_heap gq 1).trans rfl
        have q2 := (cell_of_heap gq 2).trans rfl
        have q3 := (cell_of_heap gq 3).trans rfl
        have q4 := (cell_of_heap gq 4).trans rfl
        have zx := heap_lt gq
        have hen : entC E.x E.A E.c = #[.int .i64 m, .int .i64 p, .string V, .slice AA a cc, .string N] := by unfold entC; rw [hm, hp, hV, hN, ha, hAA, hcc]
        have BX := bb.trans (bX.mono bb.size)
        obtain ⟨s1, s2, s3⟩ := H.out.2.2.1 E hmem
        have kc := gCheckX_any E.x E.A E.c X ((H.out.2.1 E hmem).below BX) s1 s2 s3
        obtain ⟨er, her⟩ : ∃ e, e = ckE E.x := ⟨_, rfl⟩
        rw [hen, ← her] at kc
        have hex : (exs L).getD k default = E.x := by
          unfold exs
          rw [List.getD_eq_getElem?_getD, List.getElem?_map, List.getElem?_eq_getElem hkL, hE]; rfl
        have HB := Lib.hid (And.intro BX (And.intro kc (And.intro h0 (And.intro gq (And.intro hex (And.intro her (And.intro hm (And.intro hc hb))))))))
        clear BX kc h0 bb hex her hm hp hV hN ha hAA hcc hen s1 s2 s3 hmem bX ct gq hc
        go_upto_region 6 with fail
        rw [← hX, ← hxb]
        clear hX hxb c0 c1 c2 c3 c4
        by_cases hok : okE E.x = true
        · have he0 : er = 0 := by rw [HB.out.2.2.2.2.2.1]; unfold ckE; rw [if_pos hok]
          subst he0
          have HK := Lib.hid hok
          clear hok
          go_upto_region 9 with (go_at_call 62; refine HB.out.2.1.mono ?_; rintro e w4 ⟨rfl, b4⟩; have m0 := (b4.cell (p := ⟨xb, 0, none⟩) zx).trans q0; have H4 := Lib.hid (HB.out.1.trans (b4.mono HB.out.1.size)); have zx4 := Nat.lt_of_lt_of_le zx b4.size; clear b4)
          clear q0 q1 q2 q3 q4
          by_cases hk0 : k = 0
          · subst hk0
            have d0 : decide ((0 : Int) < 0) = false := by decide
            go_quiet (fail)
            go_wp2_with fail
            go_roundg (gk - 1)
            case measure => omega
            case rel =>
              refine ⟨1, by omega, by go_num, ?_, below_drewN H4.out _⟩
              show ckN (exs L) (0 + 1) = 0
              rw [ckN, if_neg (by rw [HB.out.2.2.1]; simp), HB.out.2.2.2.2.1, if_neg (by rw [HK.out]; simp), if_neg (by rintro ⟨h, _⟩; omega)]
          · obtain ⟨j, rfl⟩ : ∃ j, k = j + 1 := ⟨k - 1, by omega⟩
            have hjL : j < L.length := by have := H.out.2.2.2.2; omega
            obtain ⟨mj, hmj⟩ : ∃ y, y = (L[j]'hjL).x.minute := ⟨_, rfl⟩
            have cj : w4.cell? ⟨b, off + j * 5, none⟩ = some (.int .i64 mj) := (H4.out.cell (p := ⟨b, off + j * 5, none⟩) HB.out.2.2.2.2.2.2.2.2).trans (HB.out.2.2.2.2.2.2.2.1 _ _ (by
              have := flatE_get hjL (j := 0) (by decide)
              unfold entsV; rw [Nat.add_zero] at this; rw [this, hmj]; rfl))
            have zb4 : b < w4.heap.size := Nat.lt_of_lt_of_le HB.out.2.2.2.2.2.2.2.2 H4.out.size
            have hjj : ((j + 1 : Nat) : Int) - 1 = (j : Int) := by omega
            have hexj : (exs L).getD j default = (L[j]'hjL).x := by
              unfold exs
              rw [List.getD_eq_getElem?_getD, List.getElem?_map, List.getElem?_eq_getElem hjL]; rfl
            have hnx : ckN (exs L) (j + 1 + 1) = if m < mj then 11 else 0 := by
              rw [ckN, if_neg (by rw [HB.out.2.2.1]; simp), HB.out.2.2.2.2.1, if_neg (by rw [HK.out]; simp), show j + 1 - 1 = j from rfl, hexj, ← hmj, ← HB.out.2.2.2.2.2.2.1]
              simp
            have HJ := Lib.hid hnx
            clear hmj hexj hnx
            by_cases hle : m < mj
            · have d1 : decide (m < mj) = true := decide_eq_true hle
              go_quiet (fail)
              go_wp2_with fail
              go_ret
              refine ⟨?_, below_drewN H4.out _⟩
              rw [HC.out, ckN_stay (exs L) (k := j + 1 + 1) (e := 11) (by decide) (by rw [HJ.out, if_pos hle]) n (by omega)]; rfl
            · have d1 : decide (m < mj) = false := decide_eq_false hle
              go_quiet (fail)
              go_wp2_with fail
              go_roundg (gk - 1)
              case measure => omega
              case rel => exact ⟨j + 1 + 1, by omega, by go_num, by rw [HJ.out, if_neg (by omega)], below_drewN H4.out _⟩
        · have he0 : er = 140 := by rw [HB.out.2.2.2.2.2.1]; unfold ckE; rw [if_neg hok]
          subst he0
          have HK := Lib.hid hok
          clear hok
          go_wp2_with (go_at_call 62; refine HB.out.2.1.mono ?_; rintro e w4 ⟨rfl, b4⟩; have H4 := Lib.hid (HB.out.1.trans (b4.mono HB.out.1.size)); clear b4)
          go_ret
          refine ⟨?_, H4.out⟩
          have hs : ckN (exs L) (k + 1) = 140 := by rw [ckN, if_neg (by rw [HB.out.2.2.1]; simp), HB.out.2.2.2.2.1, if_pos (by simpa using HK.out)]
          rw [HC.out, ckN_stay (exs L) (k := k + 1) (e := 140) (by decide) hs n (by omega)]; rfl
      · obtain rfl : k = n := by omega
        have HB := Lib.hid (And.intro h0 bb)
        clear h0 bb
        go_wp2_with fail
        go_ret
        exact ⟨by rw [HC.out, HB.out.1]; rfl, HB.out.2⟩
end Go.Proofs.YtaokegobilphnaaGreatDoor
/- polynyaref13.Check -/
namespace Go.Proofs.YtaokegobilphnaaGreatDoor
open Go Go.RowKit Go.Shelf Go.Proofs Sp Lg
set_option linter.unusedVariables false
set_option linter.unusedSimpArgs false

set_option maxRecDepth 100000 in
set_option maxHeartbeats 4000000 in
theorem rCheck_any (L : List EnM) (A : Option Addr) (c : Nat) (w : World) (hr : Rd w 5 A L.length (entsV L)) (hE : EnsOk w L) (hS : EnsSm L) (hl : L.length ≤ 1000000) :
    Calls Tryz.prog 12 #[.slice A L.length c] w fun e w' => e = .returned (.int .i64 (ckL (exs L))) ∧ Below w.heap.size w w' := by
  have hxl : (exs L).length = L.length := by simp [exs]
  obtain ⟨n, hn⟩ : ∃ n, n = L.length := ⟨_, rfl⟩
  rw [← hn]
  rw [← hn] at hr hl hxl
  have H := Lib.hid (And.intro hr (And.intro hE (And.intro hS (And.intro hxl hn))))
  clear hr hE hS hxl hn
  by_cases h5 : 500 < n
  · have f5 : decide ((500 : Int) < (n : Int)) = true := decide_eq_true (by omega)
    go_enter Tryz.func12, Tryz.ntmps12
    go_wp2_with fail
    go_ret
    exact ⟨by unfold ckL; rw [H.out.2.2.2.1, if_pos h5]; rfl, Below.refl _ _⟩
  · have f5 : decide ((500 : Int) < (n : Int)) = false := decide_eq_false (by omega)
    have hck : ckL (exs L) = ckN (exs L) n := by unfold ckL; rw [H.out.2.2.2.1, if_neg h5]
    have HC := Lib.hid hck
    clear hck
    go_enter Tryz.func12, Tryz.ntmps12
    go_wp2_with fail
    go_loopg [3] n (fun g i wr => ∃ k : Nat, g + k = n ∧ i = .int .i64 k ∧ ckN (exs L) k = 0 ∧ Below w.heap.size w wr)
    case atStart => exact ⟨0, rfl, rfl, rfl, Below.refl _ _⟩
    case round =>
      obtain ⟨k, hk, rfl, h0, bb⟩ := hrel
      by_cases hlt : k < n
      · have hkL : k < L.length := by have := H.out.2.2.2.2; omega
        obtain ⟨b, off, rfl, hb, hc⟩ := H.out.1.2 (by omega)
        have zb := Nat.lt_of_lt_of_le hb bb.size
        obtain ⟨E, hE⟩ : ∃ E, E = L[k] := ⟨_, rfl⟩
        have ct : ∀ j u, j < 5 → (entL E)[j]? = some u → wr.cell? ⟨b, off + k * 5 + j, none⟩ = some u := fun j u hj hu => by
          rw [Nat.add_assoc]
          exact (bb.cell (p := ⟨b, off + (k * 5 + j), none⟩) hb).trans (hc _ _ (by unfold entsV; rw [flatE_get hkL hj, ← hE]; exact hu))
        obtain ⟨m, hm⟩ : ∃ m, m = E.x.minute := ⟨_, rfl⟩
        obtain ⟨p, hp⟩ : ∃ m, m = E.x.ship := ⟨_, rfl⟩
        obtain ⟨V, hV⟩ : ∃ m, m = bs E.x.verb := ⟨_, rfl⟩
        obtain ⟨N, hN⟩ : ∃ m, m = bs E.x.note := ⟨_, rfl⟩
        obtain ⟨a, ha⟩ : ∃ m, m = E.x.args.length := ⟨_, rfl⟩
        obtain ⟨AA, hAA⟩ : ∃ m, m = E.A := ⟨_, rfl⟩
        obtain ⟨cc, hcc⟩ : ∃ m, m = E.c := ⟨_, rfl⟩
        have c0 : wr.cell? ⟨b, off + k * 5, none⟩ = some (.int .i64 m) := ct 0 _ (by decide) (by rw [hm]; rfl)
        have c1 : wr.cell? ⟨b, off + k * 5 + 1, none⟩ = some (.int .i64 p) := ct 1 _ (by decide) (by rw [hp]; rfl)
        have c2 : wr.cell? ⟨b, off + k * 5 + 2, none⟩ = some (.string V) := ct 2 _ (by decide) (by rw [hV]; rfl)
        have c3 : wr.cell? ⟨b, off + k * 5 + 3, none⟩ = some (.slice AA a cc) := ct 3 _ (by decide) (by rw [ha, hAA, hcc]; rfl)
        have c4 : wr.cell? ⟨b, off + k * 5 + 4, none⟩ = some (.string N) := ct 4 _ (by decide) (by rw [hN]; rfl)
        have hmem : E ∈ L := by rw [hE]; exact List.getElem_mem _
        have hen : entC E.x E.A E.c = #[.int .i64 m, .int .i64 p, .string V, .slice AA a cc, .string N] := by unfold entC; rw [hm, hp, hV, hN, ha, hAA, hcc]
        obtain ⟨s1, s2, s3⟩ := H.out.2.2.1 E hmem
        have kc := rWrong_any E.x E.A E.c wr ((H.out.2.1 E hmem).below bb) s1 s2 s3
        obtain ⟨er, her⟩ : ∃ e, e = !okE E.x := ⟨_, rfl⟩
        rw [hen, ← her] at kc
        have hex : (exs L).getD k default = E.x := by
          unfold exs
          rw [List.getD_eq_getElem?_getD, List.getElem?_map, List.getElem?_eq_getElem hkL, hE]; rfl
        have HB := Lib.hid (And.intro bb (And.intro kc (And.intro h0 (And.intro True.intro (And.intro hex (And.intro her (And.intro hm (And.intro hc hb))))))))
        clear kc h0 bb hex her hm hp hV hN ha hAA hcc hen s1 s2 s3 hmem ct hc
        by_cases hok : okE E.x = true
        · have he0 : er = false := by rw [HB.out.2.2.2.2.2.1, hok]; rfl
          subst he0
          have HK := Lib.hid hok
          clear hok
          go_upto_region 8 with (go_at_call 63; refine HB.out.2.1.mono ?_; rintro e w4 ⟨rfl, b4⟩; have m0 := (b4.cell (p := ⟨b, off + k * 5, none⟩) zb).trans c0; have H4 := Lib.hid (HB.out.1.trans (b4.mono HB.out.1.size)); have zb4 := Nat.lt_of_lt_of_le zb b4.size; clear b4)
          clear c0 c1 c2 c3 c4
          by_cases hk0 : k = 0
          · subst hk0
            have d0 : decide ((0 : Int) < 0) = false := by decide
            rw [show off + 0 * 5 = off from by omega] at m0
            go_quiet (fail)
            go_wp2_with fail
            go_roundg (gk - 1)
            case measure => omega
            case rel =>
              refine ⟨1, by omega, by go_num, ?_, below_drewN H4.out _⟩
              show ckN (exs L) (0 + 1) = 0
              rw [ckN, if_neg (by rw [HB.out.2.2.1]; simp), HB.out.2.2.2.2.1, if_neg (by rw [HK.out]; simp), if_neg (by rintro ⟨h, _⟩; omega)]
          · obtain ⟨j, rfl⟩ : ∃ j, k = j + 1 := ⟨k - 1, by omega⟩
            have hjL : j < L.length := by have := H.out.2.2.2.2; omega
            obtain ⟨mj, hmj⟩ : ∃ y, y = (L[j]'hjL).x.minute := ⟨_, rfl⟩
            have cj : w4.cell? ⟨b, off + j * 5, none⟩ = some (.int .i64 mj) := (H4.out.cell (p := ⟨b, off + j * 5, none⟩) HB.out.2.2.2.2.2.2.2.2).trans (HB.out.2.2.2.2.2.2.2.1 _ _ (by
              have := flatE_get hjL (j := 0) (by decide)
              unfold entsV; rw [Nat.add_zero] at this; rw [this, hmj]; rfl))
            have hjj : ((j + 1 : Nat) : Int) - 1 = (j : Int) := by omega
            have hexj : (exs L).getD j default = (L[j]'hjL).x := by
              unfold exs
              rw [List.getD_eq_getElem?_getD, List.getElem?_map, List.getElem?_eq_getElem hjL]; rfl
            have hnx : ckN (exs L) (j + 1 + 1) = if m < mj then 11 else 0 := by
              rw [ckN, if_neg (by rw [HB.out.2.2.1]; simp), HB.out.2.2.2.2.1, if_neg (by rw [HK.out]; simp), show j + 1 - 1 = j from rfl, hexj, ← hmj, ← HB.out.2.2.2.2.2.2.1]
              simp
            have HJ := Lib.hid hnx
            clear hmj hexj hnx
            by_cases hle : m < mj
            · have d1 : decide (m < mj) = true := decide_eq_true hle
              go_quiet (fail)
              go_wp2_with fail
              go_ret
              refine ⟨?_, below_drewN H4.out _⟩
              rw [HC.out, ckN_stay (exs L) (k := j + 1 + 1) (e := 11) (by decide) (by rw [HJ.out, if_pos hle]) n (by omega)]; rfl
            · have d1 : decide (m < mj) = false := decide_eq_false hle
              go_quiet (fail)
              go_wp2_with fail
              go_roundg (gk - 1)
              case measure => omega
              case rel => exact ⟨j + 1 + 1, by omega, by go_num, by rw [HJ.out, if_neg (by omega)], below_drewN H4.out _⟩
        · have he0 : er = true := by rw [HB.out.2.2.2.2.2.1]; simpa using hok
          subst he0
          have HK := Lib.hid hok
          clear hok
          go_wp2_with (go_at_call 63; refine HB.out.2.1.mono ?_; rintro e w4 ⟨rfl, b4⟩; have H4 := Lib.hid (HB.out.1.trans (b4.mono HB.out.1.size)); clear b4)
          go_ret
          refine ⟨?_, H4.out⟩
          have hs : ckN (exs L) (k + 1) = 140 := by rw [ckN, if_neg (by rw [HB.out.2.2.1]; simp), HB.out.2.2.2.2.1, if_pos (by simpa using HK.out)]
          rw [HC.out, ckN_stay (exs L) (k := k + 1) (e := 140) (by decide) hs n (by omega)]; rfl
      · obtain rfl : k = n := by omega
        have HB := Lib.hid (And.intro h0 bb)
        clear h0 bb
        go_wp2_with fail
        go_ret
        exact ⟨by rw [HC.out, HB.out.1]; rfl, HB.out.2⟩
end Go.Proofs.YtaokegobilphnaaGreatDoor
/- log.PrintLog, polynyaref13.PrintLog -/
namespace Go.Proofs.YtaokegobilphnaaGreatDoor
open Go Go.RowKit Go.Shelf Go.Proofs Sp Lg
set_option linter.unusedVariables false
set_option linter.unusedSimpArgs false

/-- the text of the first k entries -/
def plN (l : List Ent) (k : Nat) : By := whole ([76, 79, 71, 32] ++ Lib.decDigits l.length) ++ (l.take k).flatMap (fun x => whole (told x))
def plV (l : List Ent) : By := if ckL l = 0 then plN l l.length else []
theorem told_len {x : Ent} (h : OkE x) : (told x).length ≤ 400 := by
  have h1 := hd3_len h
  have h2 := flatS_len decI 13 x.args (fun b hb => decI_len ((okE_nat h).1 b hb))
  have h3 := (ones_len x.note).2
  have h4 := quo_len x.note
  have h5 := h.a
  have h6 := h.n
  rw [told_parts, join_flat, List.length_append, List.length_append]
  split
  · rw [List.length_nil]; omega
  · rw [List.length_cons]; omega
theorem fold_len : ∀ (l : List Ent), (∀ x ∈ l, OkE x) → (l.flatMap (fun x => whole (told x))).length ≤ l.length * 406
  | [], _ => by simp
  | x :: l, h => by
    have h1 := fold_len l (fun y hy => h y (by simp [hy]))
    have h2 := told_len (h x (by simp))
    rw [List.flatMap_cons, List.length_append, whole_len, List.length_cons]; omega
theorem plN_next {l : List Ent} {k : Nat} (h : k < l.length) : plN l (k + 1) = plN l k ++ whole (told l[k]) := by
  unfold plN
  rw [List.take_succ_eq_append_getElem h, List.flatMap_append]
  simp
theorem plN_len {l : List Ent} (h : ∀ x ∈ l, OkE x) (hl : l.length ≤ 500) (k : Nat) : (plN l k).length ≤ 1000000 := by
  have h1 := fold_len (l.take k) (fun y hy => h y (List.mem_of_mem_take hy))
  have h2 : (l.take k).length ≤ l.length := by rw [List.length_take]; omega
  have h3 := dec_short 2 l.length (by omega)
  unfold plN
  rw [List.length_append, whole_len, List.length_append]
  simp only [List.length_cons, List.length_nil]
  omega
def PlPost (w : World) (l : List Ent) (e : Ending) (w' : World) : Prop := e = .returned (.tuple #[.string (bs (plV l)), .int .i64 (ckL l)]) ∧ Below w.heap.size w w'
set_option maxRecDepth 100000 in
set_option maxHeartbeats 4000000 in
theorem gPrintLog_any (L : List EnM) (A : Option Addr) (c : Nat) (w : World) (hr : Rd w 5 A L.length (entsV L)) (hE : EnsOk w L) (hS : EnsSm L) (hl : L.length ≤ 1000000) (EV : Env w) :
    Calls Tryz.prog 13 #[.slice A L.length c] w (PlPost w (exs L)) := by
  have kc := gCheck_any L A c w hr hE hS hl
  have hxl : (exs L).length = L.length := by simp [exs]
  obtain ⟨n, hn⟩ : ∃ n, n = L.length := ⟨_, rfl⟩
  obtain ⟨er, her⟩ : ∃ e, e = ckL (exs L) := ⟨_, rfl⟩
  rw [← hn, ← her] at kc
  rw [← hn]
  rw [← hn] at hr hl hxl
  by_cases h0 : er = 0
  · have hok := ckL_ok (her.symm.trans h0)
    subst h0
    have hV : plV (exs L) = plN (exs L) n := by unfold plV; rw [← her, if_pos rfl, hxl]
    have hn5 : n ≤ 500 := by rw [← hxl]; exact hok.1
    have H := Lib.hid (And.intro hr (And.intro hE (And.intro hS (And.intro hxl (And.intro hn (And.intro kc (And.intro EV (And.intro hok.2 (And.intro hV her)))))))))
    clear hr hE hS hxl hn kc EV hok hV her
    obtain ⟨J, hJ⟩ : ∃ J, J = bs (Lib.decDigits n) := ⟨_, rfl⟩
    have zJ : J.size ≤ 100 := by rw [hJ, bs_size]; have := dec_short 2 n (by omega); omega
    have kj : ∀ W c', Below w.heap.size w W → Calls Tryz.prog 66 #[.slice (some ⟨W.heap.size, 0, none⟩) 1 c'] (W.alloc (.cells #[.int .i64 n] 3)) fun e w' => e = .returned (.string J) ∧ Below W.heap.size W w' := fun W c' hW => by
      have bA : Below W.heap.size W (W.alloc (.cells #[.int .i64 n] 3)) := (Below.refl _ _).alloc (Nat.le_refl _) _
      have hh := heap_alloc_new W (.cells #[.int .i64 n] 3)
      have h := joined_any [(n : Int)] (some ⟨W.heap.size, 0, none⟩) c' (W.alloc (.cells #[.int .i64 n] 3)) ⟨rfl, fun _ => ⟨_, 0, rfl, heap_lt hh, fun j u hu => by rw [Nat.zero_add]; exact (cell_of_heap hh j).trans (by simpa [ints] using hu)⟩⟩ (by simp) (fun m hm => by simp at hm; omega) (Env.below H.out.2.2.2.2.2.2.1 (hW.trans (bA.mono hW.size)))
      refine h.mono ?_
      rintro e w' ⟨rfl, hb⟩
      exact ⟨by rw [hJ]; simp [joinS, decI], bA.trans (hb.mono bA.size)⟩
    have kh : ∀ W, Below w.heap.size w W → Calls Tryz.prog 65 #[.string (⟨#[76, 79, 71, 32]⟩ ++ J)] W fun e w' => e = .returned (.string (bs (plN (exs L) 0))) ∧ Below W.heap.size W w' := fun W hW => by
      have h := checked_any (⟨#[76, 79, 71, 32]⟩ ++ J) W (by rw [ByteArray.size_append]; have : (⟨#[76, 79, 71, 32]⟩ : ByteArray).size = 4 := rfl; omega) (Env.below H.out.2.2.2.2.2.2.1 hW)
      refine h.mono ?_
      rintro e w' ⟨rfl, hb⟩
      refine ⟨?_, hb⟩
      unfold plN
      rw [H.out.2.2.2.1, hJ, show (⟨#[76, 79, 71, 32]⟩ : ByteArray) = bs [76, 79, 71, 32] from rfl, bs_app]
      simp
    have HK := Lib.hid (And.intro kj (And.intro kh hJ))
    clear kj kh hJ
    go_enter Tryz.func13, Tryz.ntmps13
    go_upto_region 4 with (go_at_call 11; refine H.out.2.2.2.2.2.1.mono ?_; rintro e w1 ⟨rfl, b1⟩; have H1 := Lib.hid b1; clear b1)
    obtain ⟨b, hb⟩ : ∃ b, b = w1.heap.size := ⟨_, rfl⟩
    obtain ⟨W1, hW1⟩ : ∃ W, W = w1.alloc (.cells #[.pointer none, .slice none 0 0] 112) := ⟨_, rfl⟩
    have k0 : Bld w b [] W1 := by rw [hb, hW1]; exact Bld.start H1.out
    have HB0 := Lib.hid k0
    go_upto_region 5 with fail
    rw [← hW1, ← hb]
    clear k0 hb hW1
    go_wp2_with (first
      | (go_at_call 66; refine (HK.out.1 W1 _ HB0.out.2).mono ?_; rintro e W2 ⟨rfl, b2⟩; have HB1 := Lib.hid (HB0.out.below b2); clear b2)
      | (go_at_call 65; refine (HK.out.2.1 W2 HB1.out.2).mono ?_; rintro e W3 ⟨rfl, b3⟩; have HB2 := Lib.hid (HB1.out.below b3); clear b3)
      | (go_at_call 64; refine (wString HB2.out (plN (exs L) 0) (by simp) (by have := plN_len H.out.2.2.2.2.2.2.2.1 (by rw [H.out.2.2.2.1]; exact hn5) 0; omega)).mono ?_; rintro e W4 ⟨rfl, b4, _⟩; have HB3 := Lib.hid b4; clear b4))
    go_loopg [7, 22] n (fun g a i wr => ∃ k : Nat, g + k = n ∧ i = .int .i64 k ∧ Bld w b (plN (exs L) k) wr)
    case atStart => exact ⟨0, rfl, rfl, by have := HB3.out; rwa [List.nil_append] at this⟩
    case round =>
      obtain ⟨k, hk, rfl, kb⟩ := hrel
      by_cases hlt : k < n
      · have hkL : k < L.length := by have := H.out.2.2.2.2.1; omega
        obtain ⟨b5, off, rfl, hb5, hc⟩ := H.out.1.2 (by omega)
        have zb := Nat.lt_of_lt_of_le hb5 kb.2.size
        obtain ⟨E, hE⟩ : ∃ E, E = L[k] := ⟨_, rfl⟩
        have ct : ∀ j u, j < 5 → (entL E)[j]? = some u → wr.cell? ⟨b5, off + k * 5 + j, none⟩ = some u := fun j u hj hu => by
          rw [Nat.add_assoc]
          exact (kb.2.cell (p := ⟨b5, off + (k * 5 + j), none⟩) hb5).trans (hc _ _ (by unfold entsV; rw [flatE_get hkL hj, ← hE]; exact hu))
        obtain ⟨m, hm⟩ : ∃ m, m = E.x.minute := ⟨_, rfl⟩
        obtain ⟨p, hp⟩ : ∃ m, m = E.x.ship := ⟨_, rfl⟩
        obtain ⟨V, hV⟩ : ∃ m, m = bs E.x.verb := ⟨_, rfl⟩
        obtain ⟨N, hN⟩ : ∃ m, m = bs E.x.note := ⟨_, rfl⟩
        obtain ⟨a, ha⟩ : ∃ m, m = E.x.args.length := ⟨_, rfl⟩
        obtain ⟨AA, hAA⟩ : ∃ m, m = E.A := ⟨_, rfl⟩
        obtain ⟨cc, hcc⟩ : ∃ m, m = E.c := ⟨_, rfl⟩
        have c0 : wr.cell? ⟨b5, off + k * 5, none⟩ = some (.int .i64 m) := ct 0 _ (by decide) (by rw [hm]; rfl)
        have c1 : wr.cell? ⟨b5, off + k * 5 + 1, none⟩ = some (.int .i64 p) := ct 1 _ (by decide) (by rw [hp]; rfl)
        have c2 : wr.cell? ⟨b5, off + k * 5 + 2, none⟩ = some (.string V) := ct 2 _ (by decide) (by rw [hV]; rfl)
        have c3 : wr.cell? ⟨b5, off + k * 5 + 3, none⟩ = some (.slice AA a cc) := ct 3 _ (by decide) (by rw [ha, hAA, hcc]; rfl)
        have c4 : wr.cell? ⟨b5, off + k * 5 + 4, none⟩ = some (.string N) := ct 4 _ (by decide) (by rw [hN]; rfl)
        have hmem : E ∈ L := by rw [hE]; exact List.getElem_mem _
        have hexm : E.x ∈ exs L := List.mem_map.2 ⟨E, hmem, rfl⟩
        have hOk := H.out.2.2.2.2.2.2.2.1 E.x hexm
        obtain ⟨X, hX⟩ : ∃ X, X = wr.alloc (.cells #[.int .i64 m, .int .i64 p, .string V, .slice AA a cc, .string N] 93) := ⟨_, rfl⟩
        obtain ⟨xb, hxb⟩ : ∃ b, b = wr.heap.size := ⟨_, rfl⟩
        have bX : Below wr.heap.size wr X := by rw [hX]; exact (Below.refl _ _).alloc (Nat.le_refl _) _
        have gq : X.heap[xb]? = some (.cells #[.int .i64 m, .int .i64 p, .string V, .slice AA a cc, .string N] 93 (0, 0)) := by rw [hX, hxb]; exact heap_alloc_new _ _
        have q0 := (cell_of_heap gq 0).trans rfl
        have q1 := (cell_of_heap gq 1).trans rfl
        have q2 := (cell_of_heap gq 2).trans rfl
        have q3 := (cell_of_heap gq 3).trans rfl
        have q4 := (cell_of_heap gq 4).trans rfl
        have zx := heap_lt gq
        have hen : entC E.x E.A E.c = #[.int .i64 m, .int .i64 p, .string V, .slice AA a cc, .string N] := by unfold entC; rw [hm, hp, hV, hN, ha, hAA, hcc]
        have kX := kb.below bX
        obtain ⟨TT, hTT⟩ : ∃ T, T = bs (told E.x) := ⟨_, rfl⟩
        have kc := gContentX_any E.x E.A E.c X hOk ((H.out.2.1 E hmem).below kX.2) (Env.below H.out.2.2.2.2.2.2.1 kX.2)
        rw [hen, ← hTT] at kc
        have kh : ∀ W, Below w.heap.size w W → Calls Tryz.prog 65 #[.string TT] W fun e w' => e = .returned (.string (bs (whole (told E.x)))) ∧ Below W.heap.size W w' := fun W hW => by
          have h := checked_any TT W (by rw [hTT, bs_size]; have := told_len hOk; omega) (Env.below H.out.2.2.2.2.2.2.1 hW)
          rw [show TT.data.toList = told E.x from by rw [hTT]] at h
          exact h
        have hkx : k < (exs L).length := by rw [H.out.2.2.2.1]; exact hlt
        have hnx : plN (exs L) (k + 1) = plN (exs L) k ++ whole (told E.x) := by
          rw [plN_next hkx]
          congr 3
          simp [exs, hE]
        have hpl := plN_len H.out.2.2.2.2.2.2.2.1 (by rw [H.out.2.2.2.1]; exact hn5) k
        have htl := told_len hOk
        have HB := Lib.hid (And.intro kX (And.intro kc (And.intro kh (And.intro hnx (And.intro hpl htl)))))
        clear kX kc kh hnx hpl htl hkx hOk hE hexm hmem hm hp hV hN ha hAA hcc hen bX ct gq hc hTT kb
        go_upto_region 9 with fail
        rw [← hX, ← hxb]
        clear hX hxb c0 c1 c2 c3 c4
        go_wp2_with (first
          | (go_at_call 67; refine HB.out.2.1.mono ?_; rintro e W5 ⟨rfl, b5'⟩; have HC1 := Lib.hid (HB.out.1.below b5'); clear b5')
          | (go_at_call 65; refine (HB.out.2.2.1 W5 HC1.out.2).mono ?_; rintro e W6 ⟨rfl, b6⟩; have HC2 := Lib.hid (HC1.out.below b6); clear b6)
          | (go_at_call 64; refine (wString HC2.out (whole (told E.x)) (by have := HB.out.2.2.2.2.1; omega) (by rw [whole_len]; have := HB.out.2.2.2.2.2; omega)).mono ?_; rintro e W7 ⟨rfl, b7, _⟩; have HC3 := Lib.hid b7; clear b7))
        go_roundg (gk - 1)
        case measure => omega
        case rel => exact ⟨k + 1, by omega, by go_num, by rw [HB.out.2.2.2.1]; exact HC3.out⟩
      · obtain rfl : k = n := by omega
        have HB := Lib.hid kb
        clear kb
        go_wp2_with (go_at_call 68; refine (bString HB.out).mono ?_; rintro e W6 ⟨rfl, q1⟩; have HZ := Lib.hid q1; clear q1)
        go_ret2
        exact ⟨by rw [H.out.2.2.2.2.2.2.2.2.1, ← H.out.2.2.2.2.2.2.2.2.2]; rfl, HZ.out.2⟩
  · have hne : (er == 0) = false := beq_eq_false_iff_ne.2 h0
    have hne2 : (er != 0) = true := by simpa using h0
    have hV : plV (exs L) = [] := by unfold plV; rw [← her, if_neg h0]
    have H := Lib.hid (And.intro kc (And.intro hV her))
    clear kc hV her hr hE hS hxl hn EV
    go_enter Tryz.func13, Tryz.ntmps13
    go_wp2_with (go_at_call 11; refine H.out.1.mono ?_; rintro e w1 ⟨rfl, b1⟩; have H1 := Lib.hid b1; clear b1)
    go_ret2
    exact ⟨by rw [H.out.2.1, ← H.out.2.2]; rfl, H1.out⟩
end Go.Proofs.YtaokegobilphnaaGreatDoor
