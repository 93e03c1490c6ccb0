/- log.PrintChart -/
import Derived.Test.YtaokegobilphnaaGreatDoorLLp17
import Derived.Test.YtaokegobilphnaaGreatDoorLLp14
set_option linter.unusedVariables false
set_option linter.unusedSimpArgs false
namespace Go.Proofs.YtaokegobilphnaaGreatDoor
open Go Go.RowKit Go.Shelf Go.Proofs Sp Lg
attribute [local go_sem] Oper.semAt_some
set_option linter.unusedVariables false
set_option linter.unusedSimpArgs false

theorem chartE_ok {a b c : Int} {l : List Cel} (h : chartE a b c l = 0) : (1 ≤ a ∧ a ≤ 64) ∧ (1 ≤ b ∧ b ≤ 64) ∧ (0 ≤ c ∧ c ≤ 10000) ∧ l.length ≤ 1024 ∧ (l.length : Int) = a * b ∧ ∀ x ∈ l, celOk x = true := by
  unfold chartE at h
  split at h
  · rename_i h1; exact absurd h h1
  · rename_i h1
    have h0 : sizeE a b c = 0 := Classical.not_not.1 h1
    have hz := size_zero h0
    split at h
    · simp at h
    · rename_i h2
      have h3 : (l.length : Int) = a * b := Classical.not_not.1 h2
      unfold celsE at h
      split at h
      · rename_i h4
        refine ⟨hz.1, hz.2.1, ?_, by omega, h3, fun x hx => List.all_eq_true.1 h4 x hx⟩
        unfold sizeE at h0
        split at h0
        · rename_i h5
          unfold sizeOk within at h5
          simp at h5
          omega
        · simp at h0
      · simp at h
theorem cel_nat {x : Cel} (h : celOk x = true) : ∀ n ∈ celI x, 0 ≤ n ∧ n ≤ 400 := by
  unfold celOk spanOk within at h
  simp at h
  intro n hn
  simp only [celI, List.mem_cons, List.not_mem_nil, or_false] at hn
  rcases hn with rfl | rfl | rfl | rfl | rfl | rfl | rfl | rfl <;> omega
/-- a line of a run -/
def runLn (l : List Cel) (p : Nat × Nat) : By := whole (joinS ((((p.2 : Nat) : Int) :: celI (l.getD p.1 default)).map decI))
def pcB (a b c : Int) (l : List Cel) (rs : List (Nat × Nat)) : By := whole ([67, 72, 65, 82, 84, 32] ++ joinS ([a, b, c].map decI)) ++ rs.flatMap (runLn l)
def pcT (a b c : Int) (l : List Cel) : By := pcB a b c l (runsP l) ++ whole [69, 78, 68]
def pcV (a b c : Int) (l : List Cel) : By := if chartE a b c l = 0 then pcT a b c l else []
theorem joinN_len {l : List Int} (h : NatL l) : (joinS (l.map decI)).length ≤ l.length * 14 := by
  have := joinS_len (l.map decI) 13 (fun f hf => by obtain ⟨n, hn, rfl⟩ := List.mem_map.1 hf; exact decI_len (h n hn))
  rwa [List.length_map] at this
theorem runLn_len {l : List Cel} {p : Nat × Nat} (h : NatL (((p.2 : Nat) : Int) :: celI (l.getD p.1 default))) : (runLn l p).length ≤ 132 := by
  have := joinN_len h
  unfold runLn
  rw [whole_len]
  simp [celI] at this ⊢
  omega
theorem flat_le {α : Type} (f : α → By) (m : Nat) : ∀ (l : List α), (∀ x ∈ l, (f x).length ≤ m) → (l.flatMap f).length ≤ l.length * m
  | [], _ => by simp
  | x :: l, h => by
    have h1 := flat_le f m l (fun y hy => h y (by simp [hy]))
    have h2 := h x (by simp)
    rw [List.flatMap_cons, List.length_append, List.length_cons, Nat.add_mul]; omega
theorem pcB_len {a b c : Int} {l : List Cel} {rs : List (Nat × Nat)} (h0 : NatL [a, b, c]) (h : ∀ p ∈ rs, NatL (((p.2 : Nat) : Int) :: celI (l.getD p.1 default))) (hr : rs.length ≤ 2000) : (pcB a b c l rs).length ≤ 50 * 10 + 2000 * 132 := by
  have h1 := joinN_len h0
  have h2 := flat_le (runLn l) 132 rs (fun p hp => runLn_len (h p hp))
  unfold pcB
  rw [List.length_append, whole_len, List.length_append]
  simp only [List.length_cons, List.length_nil] at h1 ⊢
  omega
theorem pcB_snoc (a b c : Int) (l : List Cel) (rs : List (Nat × Nat)) (p : Nat × Nat) : pcB a b c l (rs ++ [p]) = pcB a b c l rs ++ runLn l p := by
  unfold pcB
  rw [List.flatMap_append]
  simp
def PcPost (w : World) (a b c : Int) (l : List Cel) (e : Ending) (w' : World) : Prop := e = .returned (.tuple #[.string (bs (pcV a b c l)), .int .i64 (chartE a b c l)]) ∧ Below w.heap.size w w'
set_option maxRecDepth 100000 in
set_option maxHeartbeats 4000000 in
theorem gPrintChart_any (a b c : Int) (l : List Cel) (A : Option Addr) (ca : Nat) (w : World) (hr : Rd w 8 A l.length (cels l)) (hl : l.length ≤ 1000000) (EV : Env w) :
    Calls Tryz.prog 34 #[.agg #[.int .i64 a, .int .i64 b, .int .i64 c, .slice A l.length ca]] w (PcPost w a b c l) := by
  obtain ⟨er, her⟩ : ∃ e, e = chartE a b c l := ⟨_, rfl⟩
  obtain ⟨n, hn⟩ : ∃ n, n = l.length := ⟨_, rfl⟩
  obtain ⟨W1, hW1⟩ : ∃ W, W = w.alloc (.cells #[.int .i64 a, .int .i64 b, .int .i64 c, .slice A n ca] 57) := ⟨_, rfl⟩
  obtain ⟨cb, hcb⟩ : ∃ b, b = w.heap.size := ⟨_, rfl⟩
  have hb1 : W1.heap[cb]? = some (.cells #[.int .i64 a, .int .i64 b, .int .i64 c, .slice A n ca] 57 (0, 0)) := by rw [hW1, hcb]; exact heap_alloc_new _ _
  have B1 : Below w.heap.size w W1 := by rw [hW1]; exact (Below.refl _ _).alloc (Nat.le_refl _) _
  have kc := checkChart_any a b c A ca l W1 (hr.below B1) (by omega)
  rw [← her, ← hn] at kc
  rw [← hn]
  have x0 := (cell_of_heap hb1 0).trans rfl
  have x1 := (cell_of_heap hb1 1).trans rfl
  have x2 := (cell_of_heap hb1 2).trans rfl
  have x3 := (cell_of_heap hb1 3).trans rfl
  have zb := heap_lt hb1
  by_cases h0 : er = 0
  · have hok := chartE_ok (her.symm.trans h0)
    subst h0
    have hV : pcV a b c l = pcT a b c l := by unfold pcV; rw [← her, if_pos rfl]
    have hn5 : n ≤ 1024 := by rw [hn]; exact hok.2.2.2.1
    have HN := Lib.hid (And.intro hn (And.intro hok (And.intro her (And.intro hV (And.intro kc (And.intro hr (And.intro EV (And.intro B1 (And.intro hcb hb1)))))))))
    clear hn hok her hV kc hr EV B1 hb1 hl
    refine (callsIn_wide (n := 9)).1 ?_
    refine callsIn_of_wp_marks Tryz.func34 rfl trivial ?_ rfl
    simp only [Tryz.ntmps34, List.size_toArray, List.length_cons, List.length_nil, Nat.reduceAdd, Nat.reduceSub, Array.replicate_succ, Array.replicate_zero, List.push_toArray, List.append_toArray, List.nil_append, List.cons_append]
    gi_upto_region 1 with fail
    rw [← hW1, ← hcb]
    clear hW1 hcb
    gi_upto_region 4 with (refine ⟨trivial, ?_⟩; gi_at_call 87; refine (callsIn_wide.2 HN.out.2.2.2.2.1).mono ?_; rintro e w2 ⟨rfl, b2⟩; have H2 := Lib.hid b2; clear b2)
    obtain ⟨bb, hb⟩ : ∃ b, b = w2.heap.size := ⟨_, rfl⟩
    obtain ⟨W3, hW3⟩ : ∃ W, W = w2.alloc (.cells #[.pointer none, .slice none 0 0] 112) := ⟨_, rfl⟩
    have k0 : Bld W1 bb [] W3 := by rw [hb, hW3]; exact Bld.start H2.out
    have hbW : W1.heap.size ≤ bb := by rw [hb]; exact H2.out.size
    have HB0 := Lib.hid (And.intro k0 hbW)
    have y0 := (k0.2.cell (p := ⟨cb, 0, none⟩) zb).trans x0
    have y1 := (k0.2.cell (p := ⟨cb, 1, none⟩) zb).trans x1
    have y2 := (k0.2.cell (p := ⟨cb, 2, none⟩) zb).trans x2
    have y3 := (k0.2.cell (p := ⟨cb, 3, none⟩) zb).trans x3
    have zb3 := Nat.lt_of_lt_of_le zb k0.2.size
    have hN3 : NatL [a, b, c] := fun m hm => by
      obtain ⟨_, ⟨h1, h2, h3, h4⟩, _⟩ := HN.out
      simp only [List.mem_cons, List.not_mem_nil, or_false] at hm
      rcases hm with rfl | rfl | rfl <;> omega
    obtain ⟨J, hJ⟩ : ∃ J, J = bs (joinS ([a, b, c].map decI)) := ⟨_, rfl⟩
    have zJ : J.size ≤ 100 := by rw [hJ, bs_size]; have := joinN_len hN3; simp only [List.length_cons, List.length_nil] at this; omega
    have EV3 : ∀ W, Below W1.heap.size W1 W → Env W := fun W hW => Env.below HN.out.2.2.2.2.2.2.1 (HN.out.2.2.2.2.2.2.2.1.trans (hW.mono HN.out.2.2.2.2.2.2.2.1.size))
    have kj : ∀ c', Calls Tryz.prog 66 #[.slice (some ⟨W3.heap.size, 0, none⟩) 3 c'] (W3.alloc (.cells #[.int .i64 a, .int .i64 b, .int .i64 c] 3)) fun e w' => e = .returned (.string J) ∧ Below W3.heap.size W3 w' := fun c' => by
      have bA : Below W3.heap.size W3 (W3.alloc (.cells #[.int .i64 a, .int .i64 b, .int .i64 c] 3)) := (Below.refl _ _).alloc (Nat.le_refl _) _
      have hh := heap_alloc_new W3 (.cells #[.int .i64 a, .int .i64 b, .int .i64 c] 3)
      have h := joined_any [a, b, c] (some ⟨W3.heap.size, 0, none⟩) c' (W3.alloc (.cells #[.int .i64 a, .int .i64 b, .int .i64 c] 3)) ⟨rfl, fun _ => ⟨_, 0, rfl, heap_lt hh, fun j u hu => by rw [Nat.zero_add]; exact (cell_of_heap hh j).trans (by simpa [ints] using hu)⟩⟩ (by simp) hN3 (EV3 _ (HB0.out.1.2.trans (bA.mono HB0.out.1.2.size)))
      refine h.mono ?_
      rintro e w' ⟨rfl, hb⟩
      exact ⟨by rw [hJ], bA.trans (hb.mono bA.size)⟩
    have kh : ∀ W, Below W3.heap.size W3 W → Calls Tryz.prog 65 #[.string (⟨#[67, 72, 65, 82, 84, 32]⟩ ++ J)] W fun e w' => e = .returned (.string (bs (pcB a b c l []))) ∧ Below W.heap.size W w' := fun W hW => by
      have h := checked_any (⟨#[67, 72, 65, 82, 84, 32]⟩ ++ J) W (by rw [ByteArray.size_append]; have : (⟨#[67, 72, 65, 82, 84, 32]⟩ : ByteArray).size = 6 := rfl; omega) (EV3 W (HB0.out.1.2.trans (hW.mono HB0.out.1.2.size)))
      refine h.mono ?_
      rintro e w' ⟨rfl, hb⟩
      refine ⟨?_, hb⟩
      unfold pcB
      rw [hJ, show (⟨#[67, 72, 65, 82, 84, 32]⟩ : ByteArray) = bs [67, 72, 65, 82, 84, 32] from rfl, bs_app]
      simp
    have hc1 := addStr (x := ⟨#[67, 72, 65, 82, 84, 32]⟩) (y := J) (by have : (⟨#[67, 72, 65, 82, 84, 32]⟩ : ByteArray).size = 6 := rfl; omega)
    have HK := Lib.hid (And.intro kj (And.intro kh (And.intro hJ (And.intro EV3 hN3))))
    clear kj kh hJ EV3 hN3 x0 x1 x2 x3
    gi_upto_region 5 with fail
    rw [← hW3, ← hb]
    clear k0 hb hW3 hbW
    gi_upto_region 6 with (first
      | (refine ⟨trivial, ?_⟩; gi_at_call 66; refine (callsIn_wide.2 (HK.out.1 _)).mono ?_; rintro e W4 ⟨rfl, b4⟩; have HB1 := Lib.hid (And.intro b4 (HB0.out.1.below b4)); clear b4)
      | (refine ⟨trivial, ?_⟩; gi_at_call 65; refine (callsIn_wide.2 (HK.out.2.1 W4 HB1.out.1)).mono ?_; rintro e W5 ⟨rfl, b5⟩; have HB2 := Lib.hid (HB1.out.2.below b5); clear b5)
      | (refine ⟨trivial, ?_⟩; gi_at_call 64; refine (callsIn_wide.2 (wString HB2.out (pcB a b c l []) (by simp) (by have := pcB_len (l := l) (rs := []) HK.out.2.2.2.2 (by simp) (by simp); omega))).mono ?_; rintro e W6 ⟨rfl, b6, _⟩; have z3 := (b6.2.cell (p := ⟨cb, 3, none⟩) zb).trans ((cell_of_heap HN.out.2.2.2.2.2.2.2.2.2 3).trans rfl); have zb6 := Nat.lt_of_lt_of_le zb b6.2.size; have HB3 := Lib.hid b6; clear b6))
    gi_wp2_with (refine ⟨trivial, ?_⟩; gi_at_call 88; refine (callsIn_wide.2 (gRuns_any A n ca W6)).mono ?_; rintro e w7 ⟨rfl, hw7⟩; have HW7 := Lib.hid hw7; clear hw7)
    obtain ⟨tb, htb⟩ : ∃ b, b = W6.heap.size := ⟨_, rfl⟩
    rw [← htb]
    have ht7 : w7.heap[tb]? = some (.cells #[.slice A l.length ca] 55 (0, 0)) := by rw [HW7.out, htb, ← HN.out.1]; exact heap_alloc_new _ _
    have hb7 : Below W6.heap.size W6 w7 := by rw [HW7.out]; exact (Below.refl _ _).alloc (Nat.le_refl _) _
    have zt7 := heap_lt ht7
    have k7 := HB3.out.below hb7
    have hW1t : W1.heap.size ≤ tb := by rw [htb]; exact HB3.out.2.size
    have hbt : bb ≠ tb := by have := HB3.out.lt; omega
    have hl1 : l.length ≤ 1000000 := by have := HN.out.1; omega
    have hr1 := HN.out.2.2.2.2.2.1.below HN.out.2.2.2.2.2.2.2.1
    have hall : ∀ (pre : List (Rn l.length)), ∀ p ∈ rnB pre, NatL (((p.2 : Nat) : Int) :: celI (l.getD p.1 default)) := by
      intro pre p hp
      obtain ⟨y, _, rfl⟩ := List.mem_map.1 hp
      intro k hk
      rcases List.mem_cons.1 hk with rfl | hk
      · have := y.2; have := HN.out.1; omega
      · have hyl : y.1.1 < l.length := by have := y.2; omega
        have hyo : celOk (l.getD y.1.1 default) = true := by rw [List.getD_eq_getElem?_getD, List.getElem?_eq_getElem hyl]; exact HN.out.2.1.2.2.2.2.2 _ (List.getElem_mem _)
        have := cel_nat hyo k hk; omega
    have HALL := Lib.hid hall
    clear hall
    have HT := Lib.hid (And.intro k7 (And.intro ht7 (And.intro hW1t (And.intro hbt hr1))))
    clear htb hb7 k7 hW1t hbt hr1
    refine range_tb2 rfl (by omega) (gf := 131) (lb := #[.pointer (some ⟨tb, 0, none⟩)]) rfl trivial (enters_of Tryz.func131 (by kernel_rfl) rfl) (runs1_seq tb A ca l w7 ht7 hl1 l.length _ (Nat.le_refl _) (by omega)) (Below.refl _ _) rfl zt7 (fun _ => rfl)
      (fun pre W => Bld W1 bb (pcB a b c l (rnB pre)) W ∧ W.heap[tb]? = some (.cells #[.slice A l.length ca] 55 (0, 0))) ?inv (fun pre W h => HT.out.2.2.2.2.below h.1.2) ⟨HT.out.1, HT.out.2.1⟩ (fun x => { tmps := #[.agg #[.int .i64 a, .int .i64 b, .int .i64 c, .slice A n ca], .pointer (some ⟨cb, 0, none⟩), .string ⟨#[]⟩, .int .i64 0, .int .i64 0, .pointer (some ⟨bb, 0, none⟩), .int .i64 x.1.1, .int .i64 x.1.2, .agg #[.int .i64 a, .int .i64 b, .int .i64 c, .slice A n ca], .int .i64 0, .int .i64 0, .bool false, undef, .pointer (some ⟨cb, 0, none⟩), .int .i64 a, .pointer (some ⟨cb, 1, none⟩), .int .i64 b, .pointer (some ⟨cb, 2, none⟩), .int .i64 c, .slice (some ⟨W3.heap.size, 0, none⟩) 3 3, .string J, .string (⟨#[67, 72, 65, 82, 84, 32]⟩ ++ J), .string (bs (pcB a b c l [])), .tuple #[.int .i64 (pcB a b c l []).length, .nilIface], .pointer (some ⟨cb, 3, none⟩), .slice A n ca, .func (.func 131) #[] #[.pointer (some ⟨tb, 0, none⟩)], .int .i64 x.1.1, .int .i64 x.1.2, undef, undef, undef, undef, undef, undef, undef, undef, undef, undef, undef, undef, undef, undef, undef], defers := [] }) ?assign ?body ?done
    case inv =>
      intro pre A' C h hs
      exact ⟨h.1.simZ hs (by have := HT.out.1.2.size; omega), hs.same _ _ h.2 (fun _ => rfl)⟩
    case assign =>
      intro lp x W K hK
      gi_wp2
      exact hK
    case body =>
      rintro lp pre x W ⟨hB, htB⟩ hlen hlt
      have hi := x.2
      obtain ⟨i, hi0⟩ : ∃ i, i = x.1.1 := ⟨_, rfl⟩
      obtain ⟨m, hm0⟩ : ∃ m, m = x.1.2 := ⟨_, rfl⟩
      rw [← hi0, ← hm0] at hi
      rw [← hi0, ← hm0]
      have hil : i < l.length := by omega
      have hiN : i < n := by rw [HN.out.1]; exact hil
      have hmN : m ≤ n := by rw [HN.out.1]; omega
      obtain ⟨X, hX⟩ : ∃ X, X = l[i]'hil := ⟨_, rfl⟩
      have hXd : l.getD i default = X := by rw [hX, List.getD_eq_getElem?_getD, List.getElem?_eq_getElem hil]; rfl
      have hXo : celOk X = true := HN.out.2.1.2.2.2.2.2 X (by rw [hX]; exact List.getElem_mem _)
      obtain ⟨b8, off, rfl, hb8, hc⟩ := (HT.out.2.2.2.2.below hB.2).2 (by omega)
      obtain ⟨s0, s1, s2, s3, s4, s5, s6, s7⟩ := cels_get (l := l) (k := i) hil
      rw [← hX] at s0 s1 s2 s3 s4 s5 s6 s7
      obtain ⟨a0, a1, b0, b1, c0, c1, d0, d1⟩ := X
      have e0 : W.cell? ⟨b8, off + i * 8, none⟩ = some (.int .i64 a0) := hc _ _ s0
      have e1 : W.cell? ⟨b8, off + i * 8 + 1, none⟩ = some (.int .i64 a1) := by rw [Nat.add_assoc]; exact hc _ _ s1
      have e2 : W.cell? ⟨b8, off + i * 8 + 2, none⟩ = some (.int .i64 b0) := by rw [Nat.add_assoc]; exact hc _ _ s2
      have e3 : W.cell? ⟨b8, off + i * 8 + 3, none⟩ = some (.int .i64 b1) := by rw [Nat.add_assoc]; exact hc _ _ s3
      have e4 : W.cell? ⟨b8, off + i * 8 + 4, none⟩ = some (.int .i64 c0) := by rw [Nat.add_assoc]; exact hc _ _ s4
      have e5 : W.cell? ⟨b8, off + i * 8 + 5, none⟩ = some (.int .i64 c1) := by rw [Nat.add_assoc]; exact hc _ _ s5
      have e6 : W.cell? ⟨b8, off + i * 8 + 6, none⟩ = some (.int .i64 d0) := by rw [Nat.add_assoc]; exact hc _ _ s6
      have e7 : W.cell? ⟨b8, off + i * 8 + 7, none⟩ = some (.int .i64 d1) := by rw [Nat.add_assoc]; exact hc _ _ s7
      have q3 := (hB.2.cell (p := ⟨cb, 3, none⟩) zb).trans ((cell_of_heap HN.out.2.2.2.2.2.2.2.2.2 3).trans rfl)
      have zcb := Nat.lt_of_lt_of_le zb hB.2.size
      have hNX : NatL ((m : Int) :: celI ⟨a0, a1, b0, b1, c0, c1, d0, d1⟩) := fun k hk => by
        rcases List.mem_cons.1 hk with rfl | hk
        · omega
        · have := cel_nat hXo k hk; omega
      obtain ⟨R, hR⟩ : ∃ R, R = joinS (((m : Int) :: celI ⟨a0, a1, b0, b1, c0, c1, d0, d1⟩).map decI) := ⟨_, rfl⟩
      have zR : R.length ≤ 126 := by rw [hR]; exact joinN_len hNX
      have hln : runLn l (i, m) = whole R := by unfold runLn; rw [hXd, hR]
      have hpl := pcB_len HK.out.2.2.2.2 (HALL.out pre) (by rw [show (rnB pre).length = pre.length from List.length_map ..]; have := HN.out.1; omega)
      have hEV : ∀ V, Below W.heap.size W V → Env V := fun V hV => HK.out.2.2.2.1 V (hB.2.trans (hV.mono hB.2.size))
      have HB := Lib.hid (And.intro hB (And.intro hR (And.intro hln (And.intro hpl (And.intro hNX (And.intro hEV (And.intro hlen (And.intro htB (And.intro hi0 hm0)))))))))
      clear htB hB hR hln hpl hNX hEV hlen hlt hi0 hm0 hXo hXd hX hc s0 s1 s2 s3 s4 s5 s6 s7
      obtain ⟨iI, hI0, hI1, hI2, hI3⟩ := info_parts infoLgI
      have bA : Below W.heap.size W (W.alloc (.cells #[.int .i64 m] 3)) := (Below.refl _ _).alloc (Nat.le_refl _) _
      have HA := Lib.hid bA
      clear bA
      gi_wp2_with (first
        | (refine ⟨trivial, ?_⟩; gi_at_call 89; refine (CallsIn.inRound lp (callsIn_wide.2 (gFields_any ⟨a0, a1, b0, b1, c0, c1, d0, d1⟩ (W.alloc (.cells #[.int .i64 m] 3))))).mono ?_; rintro e W8 ⟨g, rfl, hg, hb⟩; have HF := Lib.hid (And.intro hg hb); clear hg hb)
        | (gi_at_builtin
           refine wpListIn_append_M (size := 1) rfl _ _ 24 rfl iI _ 8 Tryz.underlying24 hI0 hI1 hI2 hI3 rfl (A := some ⟨W.heap.size, 0, none⟩) (n := 1) (c := 1) (xs := [.int .i64 m]) (fp := [W.heap.size]) (B := some ⟨g, 0, none⟩) (m := 8) (d := 8) (ys := ints (celI ⟨a0, a1, b0, b1, c0, c1, d0, d1⟩)) (by simp [Act.eval]) (by simp [Act.eval]) ⟨rfl, .inr ⟨_, #[.int .i64 m], rfl, rfl, (HF.out.2.block W.heap.size (by simp)).trans (heap_alloc_new W _), Nat.le_refl _, by decide, rfl, fun j u h => by simpa using h⟩⟩ ⟨rfl, fun _ => ⟨g, 0, rfl, heap_lt HF.out.1, fun j u hu => by rw [Nat.zero_add]; exact (cell_of_heap HF.out.1 j).trans (by simpa [ints, celI, celA] using hu)⟩⟩ (by intro u hu; simp [ints, celI] at hu; rcases hu with rfl | rfl | rfl | rfl | rfl | rfl | rfl | rfl <;> rfl) (by omega) (by decide) ?_
           intro A9 c9 W9 fp9 q1 q2 q3
           have b9 : Below W.heap.size W W9 := (HA.out.trans (HF.out.2.mono HA.out.size)).trans (q3.below (Nat.le_trans HA.out.size HF.out.2.size) (by simp))
           have kj9 : Calls Tryz.prog 66 #[.slice A9 9 c9] W9 fun e w' => e = .returned (.string (bs R)) ∧ Below W9.heap.size W9 w' := by
             have h := joined_any ((m : Int) :: celI ⟨a0, a1, b0, b1, c0, c1, d0, d1⟩) A9 c9 W9 (by simpa [ints, celI] using q1.rd) (by simp [celI]) HB.out.2.2.2.2.1 (HB.out.2.2.2.2.2.1 W9 b9)
             rw [← HB.out.2.1] at h
             exact h
           have HG := Lib.hid (And.intro b9 kj9)
           clear b9 kj9 q1 q2 q3)
        | (refine ⟨trivial, ?_⟩; gi_at_call 66; refine (CallsIn.inRound lp (callsIn_wide.2 HG.out.2)).mono ?_; rintro e W10 ⟨rfl, b10⟩; have HG2 := Lib.hid (HG.out.1.trans (b10.mono HG.out.1.size)); clear b10)
        | (refine ⟨trivial, ?_⟩; gi_at_call 65; refine (CallsIn.inRound lp (callsIn_wide.2 (checked_any (bs R) W10 (by rw [bs_size]; omega) (HB.out.2.2.2.2.2.1 W10 HG2.out)))).mono ?_; rintro e W11 ⟨rfl, b11⟩; have HG3 := Lib.hid (HG2.out.trans (b11.mono HG2.out.size)); clear b11)
        | (refine ⟨trivial, ?_⟩; gi_at_call 64; refine (CallsIn.inRound lp (callsIn_wide.2 (wString2 (HB.out.1.below HG3.out) (whole R) (by have := HB.out.2.2.2.1; omega) (by rw [whole_len]; omega)))).mono ?_; rintro e W12 ⟨rfl, h12, o12, z12⟩; have HG4 := Lib.hid (And.intro h12 (And.intro o12 z12)); clear h12 o12 z12))
      obtain ⟨hB, hR, hln, hpl, hNX, hEV, hlen, htB, hi0, hm0⟩ := HB.out
      have ht12 := others_block htB (by decide) (fun e => HT.out.2.2.2.1 e.symm) HG3.out HG4.out.2.1
      refine ⟨keepsOthers_others hB HG3.out HG4.out.2.1 HG4.out.2.2, Nat.le_trans HG3.out.size HG4.out.2.2, ht12.trans htB.symm, ?_, ht12⟩
      have e1 : rnB (pre ++ [x]) = rnB pre ++ [(i, m)] := by unfold rnB; rw [List.map_append, hi0, hm0]; rfl
      rw [e1, pcB_snoc, hln]
      exact HG4.out.1
    case done =>
      rintro D xs W hD hxs ⟨hB, htB⟩ hK
      have zD := heap_lt hK
      have hBD : W1.heap.size ≤ D := by have := HT.out.1.2.size; omega
      have hbD : bb ≠ D := by have := HT.out.1.lt; omega
      have hpl : (pcB a b c l (rnB xs)).length ≤ 100000000 := by
        have := runsF_len l.length l 0
        have h2 := pcB_len (l := l) HK.out.2.2.2.2 (HALL.out xs) (by rw [hxs]; have := HN.out.1; unfold runsP; omega)
        omega
      have HD := Lib.hid (And.intro hB (And.intro hK (And.intro hxs (And.intro hBD (And.intro hbD hpl)))))
      clear hB hK hxs hBD hbD hpl htB
      gi_wp2_with (first
        | (refine ⟨trivial, ?_⟩; gi_at_call 65; refine (callsIn_wide.2 (checked_any (bs [69, 78, 68]) W (by decide) (HK.out.2.2.2.1 W HD.out.1.2))).mono ?_; rintro e W8 ⟨rfl, b8⟩; have HD1 := Lib.hid b8; clear b8)
        | (refine ⟨trivial, ?_⟩; gi_at_call 64; refine (callsIn_wide.2 (wString2 (HD.out.1.below HD1.out) (whole [69, 78, 68]) HD.out.2.2.2.2.2 (by decide))).mono ?_; rintro e W9 ⟨rfl, h9, o9, z9⟩; have HD2 := Lib.hid (And.intro h9 o9); clear h9 o9 z9)
        | (refine ⟨trivial, ?_⟩; gi_at_call 68; refine (callsIn_wide.2 (bString2 HD2.out.1)).mono ?_; rintro e W10 ⟨rfl, h10, o10⟩; have HD3 := Lib.hid (And.intro h10 o10); clear h10 o10))
      obtain ⟨hB, hK, hxs, hBD, hbD, hpl⟩ := HD.out
      have hK8 := (HD1.out.block D (Array.getElem?_eq_some_iff.1 hK).1).trans hK
      have hK9 := HD2.out.2 D _ hK8 (by simpa using fun e => hbD e.symm) (fun _ _ e => by cases e)
      have hK10 := HD3.out.2 D _ hK9 (by simpa using fun e => hbD e.symm) (fun _ _ e => by cases e)
      refine ⟨by simp, .inl ⟨_, _, rfl, run_takeDeferred hK10, ?_⟩⟩
      refine ⟨_, results_tmp2 rfl _ _ _, ?_⟩
      have hb := (SimZ.put (B := W1.heap.size) (o' := .deferred none) hBD hK10 rfl).bel HD3.out.1.2 (Nat.le_refl _) HD3.out.1.2.size
      have b1 := HN.out.2.2.2.2.2.2.2.1
      refine ⟨?_, b1.trans (hb.mono b1.size)⟩
      rw [HN.out.2.2.2.1, ← HN.out.2.2.1, hxs]
      rfl
  · have hne : (er == 0) = false := beq_eq_false_iff_ne.2 h0
    have hne2 : (er != 0) = true := by simpa using h0
    have hV : pcV a b c l = [] := by unfold pcV; rw [← her, if_neg h0]
    have H := Lib.hid (And.intro kc (And.intro hV (And.intro her B1)))
    clear kc hV her hr EV B1 hb1 hn
    go_enter Tryz.func34, Tryz.ntmps34
    go_upto_region 1 with fail
    rw [← hW1, ← hcb]
    clear hW1 hcb
    go_wp2_with (go_at_call 87; refine H.out.1.mono ?_; rintro e w1 ⟨rfl, b1⟩; have H1 := Lib.hid b1; clear b1)
    go_ret2
    exact ⟨by rw [H.out.2.1, ← H.out.2.2.1]; rfl, H.out.2.2.2.trans (H1.out.mono H.out.2.2.2.size)⟩
end Go.Proofs.YtaokegobilphnaaGreatDoor
/- Plain law of a patch's text -/
namespace Go.Proofs.YtaokegobilphnaaGreatDoor
open Go Go.RowKit Go.Shelf Go.Proofs Sp Lg
set_option linter.unusedVariables false
set_option linter.unusedSimpArgs false

/-- what becomes of a cell that was x and is y -/
def chg1 (x y : Cel) : Chg := if y = x then ⟨false, ⟨0, 0, 0, 0, 0, 0, 0, 0⟩⟩ else ⟨true, y⟩
def chgN (p q : List Cel) (k : Nat) : List Chg := (List.range k).map (fun i => chg1 (p.getD i default) (q.getD i default))
def chgL (p q : List Cel) : List Chg := chgN p q q.length
theorem chgN_len (p q : List Cel) (k : Nat) : (chgN p q k).length = k := by simp [chgN]
theorem chgN_succ (p q : List Cel) (k : Nat) : chgN p q (k + 1) = chgN p q k ++ [chg1 (p.getD k default) (q.getD k default)] := by
  unfold chgN; rw [List.range_succ, List.map_append]; rfl
theorem chgN_get (p q : List Cel) (k i : Nat) (h : i < k) : (chgN p q k).getD i default = chg1 (p.getD i default) (q.getD i default) := by
  rw [List.getD_eq_getElem?_getD, List.getElem?_eq_getElem (by rw [chgN_len]; exact h)]
  simp [chgN]
/-- a line of a run of changes -/
def chgLn (l : List Chg) (p : Nat × Nat) : By := if (l.getD p.1 default).is then whole (joinS ((((p.1 : Nat) : Int) :: ((p.2 : Nat) : Int) :: celI (l.getD p.1 default).cel).map decI)) else []
def ppB (a b c d : Int) (l : List Chg) (rs : List (Nat × Nat)) : By := whole ([80, 65, 84, 67, 72, 32] ++ joinS ([a, b, c, d].map decI)) ++ rs.flatMap (chgLn l)
def ppT (a b c d : Int) (l : List Chg) : By := ppB a b c d l (runsP l) ++ whole [69, 78, 68]
/-- the error of a patch's printing: charts of sides a, b and x, y at the hours c and z -/
def ppE (a b c : Int) (p : List Cel) (x y z : Int) (q : List Cel) : Int := if chartE a b c p ≠ 0 then chartE a b c p else if chartE x y z q ≠ 0 then chartE x y z q else if a ≠ x ∨ b ≠ y then 1 else 0
def ppV (a b c : Int) (p : List Cel) (x y z : Int) (q : List Cel) : By := if ppE a b c p x y z q = 0 then ppT x y c z (chgL p q) else []
theorem chgLn_len {l : List Chg} {p : Nat × Nat} (h : NatL (((p.1 : Nat) : Int) :: ((p.2 : Nat) : Int) :: celI (l.getD p.1 default).cel)) : (chgLn l p).length ≤ 146 := by
  have := joinN_len h
  unfold chgLn
  split
  · rw [whole_len]
    simp [celI] at this ⊢
    omega
  · simp
theorem ppB_len {a b c d : Int} {l : List Chg} {rs : List (Nat × Nat)} (h0 : NatL [a, b, c, d]) (h : ∀ p ∈ rs, NatL (((p.1 : Nat) : Int) :: ((p.2 : Nat) : Int) :: celI (l.getD p.1 default).cel)) (hr : rs.length ≤ 2000) : (ppB a b c d l rs).length ≤ 60 * 10 + 2000 * 146 := by
  have h1 := joinN_len h0
  have h2 := flat_le (chgLn l) 146 rs (fun p hp => chgLn_len (h p hp))
  unfold ppB
  rw [List.length_append, whole_len, List.length_append]
  simp only [List.length_cons, List.length_nil] at h1 ⊢
  omega
theorem ppB_snoc (a b c d : Int) (l : List Chg) (rs : List (Nat × Nat)) (p : Nat × Nat) : ppB a b c d l (rs ++ [p]) = ppB a b c d l rs ++ chgLn l p := by
  unfold ppB
  rw [List.flatMap_append]
  simp
def PpPost (w : World) (a b c : Int) (p : List Cel) (x y z : Int) (q : List Cel) (e : Ending) (w' : World) : Prop := e = .returned (.tuple #[.string (bs (ppV a b c p x y z q)), .int .i64 (ppE a b c p x y z q)]) ∧ Below w.heap.size w w'
end Go.Proofs.YtaokegobilphnaaGreatDoor
/- (reader).numbers -/
namespace Go.Proofs.YtaokegobilphnaaGreatDoor
open Go Go.RowKit Go.Shelf Go.Proofs Sp Lg
set_option linter.unusedVariables false
set_option linter.unusedSimpArgs false

theorem allN_take_none : ∀ (l : List By) (j : Nat), allN (l.take j) = none → allN l = none := by
  intro l
  induction l with
  | nil => intro j h; simpa using h
  | cons a l ih =>
    intro j h
    cases j with
    | zero => cases h
    | succ j =>
      rw [List.take_succ_cons, allN] at h
      rw [allN]
      cases h1 : numB a with
      | none => rfl
      | some v =>
        rw [h1] at h
        cases h2 : allN (l.take j) with
        | none => rw [ih j h2]
        | some w => rw [h2] at h; cases h
/-- the fields behind the prefix, and the numbers of a line -/
def numsF (T pre : By) : List By := if pre = [] then fields T else (fields T).drop 1
def nums (T pre : By) (k : Nat) : Option (List Nat) := if pre ≠ [] ∧ (fields T).headD [] ≠ pre then none else if (numsF T pre).length = k then allN (numsF T pre) else none
def NmPost (w : World) (num : Nat) (T pre : By) (k : Nat) (e : Ending) (w' : World) : Prop :=
  Below w.heap.size w w' ∧ (nums T pre k = none → e = FailE num 3) ∧ ∀ vs, nums T pre k = some vs → ∃ A c q, e = .returned (.slice A vs.length c) ∧ OwnS w' 3 1 A vs.length c (ints (vs.map Int.ofNat)) q ∧ ∀ x ∈ q, w.heap.size ≤ x
theorem fields_short {T : By} {m : Nat} (h : T.length ≤ m) : ∀ f ∈ fields T, f.length ≤ m := fun f hf => by
  have h5 : (joinS (fields T)).length = T.length := by rw [join_fields]
  have key : ∀ (l : List By), ∀ f ∈ l, f.length ≤ (joinS l).length := by
    intro l
    induction l with
    | nil => intro f hf; cases hf
    | cons a l ih =>
      intro f hf
      cases l with
      | nil => simp at hf; subst hf; exact Nat.le_refl _
      | cons b l =>
        rw [Lg.join_cons (by simp), List.length_append, List.length_cons]
        rcases List.mem_cons.1 hf with rfl | hf
        · omega
        · have := ih f hf; omega
  have := key _ f hf
  omega
set_option maxRecDepth 100000 in
set_option maxHeartbeats 4000000 in
theorem gNumbers_any (fb num : Nat) (T pre : By) (k : Nat) (w : World) (hT : T.length ≤ 1000000) (hf : w.cell? ⟨fb, 1, none⟩ = some (.int .i64 num)) (E : Env w) (hk : 1 ≤ k ∧ k ≤ 1000) :
    Calls Tryz.prog 135 #[.agg #[.pointer (some ⟨fb, 0, none⟩)], .string (bs T), .string (bs pre), .int .i64 k] w (NmPost w num T pre k) := by
  obtain ⟨iI, hI0, hI1, hI2, hI3⟩ := info_parts infoLgI
  obtain ⟨F, hF⟩ : ∃ F, F = fields T := ⟨_, rfl⟩
  obtain ⟨S, hS⟩ : ∃ S, S = bs T := ⟨_, rfl⟩
  obtain ⟨n, hn⟩ : ∃ n, n = F.length := ⟨_, rfl⟩
  have zS : S.size ≤ 1000000 := by rw [hS, bs_size]; exact hT
  have hnl : n ≤ 1000001 := by rw [hn, hF]; have := fields_len T; omega
  have hn0 : 1 ≤ n := by rw [hn, hF]; exact List.length_pos_iff.2 (fields_ne T)
  have hFl : ∀ f ∈ F, f.length ≤ 1000000 := by rw [hF]; exact fields_short hT
  obtain ⟨db, hdb⟩ : ∃ b, b = w.heap.size := ⟨_, rfl⟩
  obtain ⟨W1, hW1⟩ : ∃ W, W = w.alloc (.cells #[.pointer (some ⟨fb, 0, none⟩)] 184) := ⟨_, rfl⟩
  obtain ⟨lb, hlb⟩ : ∃ b, b = W1.heap.size := ⟨_, rfl⟩
  have b1 : Below w.heap.size w W1 := by rw [hW1]; exact (Below.refl _ _).alloc (Nat.le_refl _) _
  obtain ⟨W2, hW2⟩ : ∃ W, W = W1.alloc (.cells (strs F).toArray 9) := ⟨_, rfl⟩
  have kS : Calls Tryz.prog 126 #[.string S, .string ⟨#[32]⟩] W1 fun e w' => e = .returned (.slice (some ⟨lb, 0, none⟩) n n) ∧ w' = W2 := by
    obtain ⟨m0, hm0⟩ := (Env.below E b1).1
    have h5 := Tryz.strings_Split S ⟨#[32]⟩ m0 W1 (by omega) hm0 (by decide)
    obtain ⟨h6, h7⟩ := split_all T.length T (Nat.le_refl _)
    rw [← hF] at h6 h7
    rw [show S = bsJ T from hS, show (⟨#[32]⟩ : ByteArray) = bsJ [32] from rfl, h6, h7, ← hn, ← hlb, show bsJ T = S from hS.symm, show bsJ [32] = (⟨#[32]⟩ : ByteArray) from rfl] at h5
    refine h5.mono ?_
    rintro e w' ⟨rfl, rfl⟩
    refine ⟨rfl, ?_⟩
    rw [List.map_map, hW2]
    rfl
  have O2 : Own w.heap.size w [.blk db (.cells #[.pointer (some ⟨fb, 0, none⟩)] 184), .blk lb (.cells (strs F).toArray 9)] W2 := by
    have h := (Own.start w).alloc (.cells #[.pointer (some ⟨fb, 0, none⟩)] 184)
    have h2 := h.alloc (.cells (strs F).toArray 9)
    rw [← hW1, ← hlb, ← hW2] at h2
    rw [hdb]
    exact h2
  obtain ⟨G, hG⟩ : ∃ G, G = numsF T pre := ⟨_, rfl⟩
  obtain ⟨m, hm⟩ : ∃ m, m = G.length := ⟨_, rfl⟩
  obtain ⟨P, hP⟩ : ∃ S, S = bs pre := ⟨_, rfl⟩
  rw [← hS, ← hP]
  have zf := World.block_lt_of_cell? w _ hf
  have hf2 : W2.cell? ⟨fb, 1, none⟩ = some (.int .i64 num) := (O2.bel.cell (p := ⟨fb, 1, none⟩) zf).trans hf
  have hd0 := (cell_of_heap (O2.heap 0 rfl) 0).trans rfl
  have zd := heap_lt (O2.heap 0 rfl)
  have hnm : nums T pre k = if pre ≠ [] ∧ F.headD [] ≠ pre then none else if m = k then allN G else none := by unfold nums; rw [← hF, ← hG, ← hm]
  obtain ⟨pe, hpe⟩ : ∃ b, b = P.toList.isEmpty := ⟨_, rfl⟩
  have hpe2 : P.toList.isEmpty = pe := hpe.symm
  have hpe3 : pe = decide (pre = []) := by rw [hpe, hP, bs_empty]
  have HPE := Lib.hid hpe3
  clear hpe hpe3
  have H := Lib.hid (And.intro kS (And.intro O2 (And.intro hnm (And.intro hF (And.intro hn (And.intro hFl (And.intro hG (And.intro hm (And.intro hP (And.intro b1 hf))))))))))
  clear kS O2 hnm hF hn hFl hG hm hP b1 hS hf hlb hW2 E
  go_enter Tryz.func135, Tryz.ntmps135
  go_upto_region 1 with fail
  rw [← hW1, ← hdb]
  clear hW1 hdb
  go_upto_if 18 with (go_at_call 126; refine H.out.1.mono ?_; rintro e w2 ⟨rfl, hw2⟩; have hw2' := hw2.symm; clear hw2; subst hw2')
  go_cut [9] from 19 to 28 (fun sv wz => ∃ o c nq, sv = .slice (some ⟨lb, o, none⟩) m c ∧ wz = W2.drewN nq ∧ nums T pre k = (if m = k then allN G else none) ∧ ∀ j f, G[j]? = some f → W2.cell? ⟨lb, o + j, none⟩ = some (.string (bs f)))
  case first =>
    cases pe with
    | true =>
      have hp : pre = [] := of_decide_eq_true HPE.out.symm
      have HP := Lib.hid hp
      clear hp
      go_wp2_with fail
      go_meet
      have hgf : G = F := by rw [H.out.2.2.2.2.2.2.1, H.out.2.2.2.1]; unfold numsF; rw [if_pos HP.out]
      refine ⟨0, n, 0, ?_, rfl, ?_, fun j f hj => ?_⟩
      · rw [H.out.2.2.2.2.2.2.2.1, H.out.2.2.2.2.1, hgf]
      · rw [H.out.2.2.1, if_neg (fun h => h.1 HP.out)]
      · rw [Nat.zero_add]
        exact (cell_of_heap (H.out.2.1.heap 1 rfl) j).trans (by rw [hgf] at hj; simp [strs, hj])
    | false =>
      have hp : ¬ pre = [] := of_decide_eq_false HPE.out.symm
      obtain ⟨f0, hf0⟩ : ∃ f, f = F.headD [] := ⟨_, rfl⟩
      obtain ⟨V, hV⟩ : ∃ V, V = bs f0 := ⟨_, rfl⟩
      have hF0 : F[0]? = some f0 := by
        have := H.out.2.2.2.2.1
        cases hFc : F with
        | nil => rw [hFc] at this; simp at this; omega
        | cons a l => rw [hf0, hFc]; rfl
      have l0 : W2.cell? ⟨lb, 0, none⟩ = some (.string V) := (cell_of_heap (H.out.2.1.heap 1 rfl) 0).trans (by rw [hV]; simp [strs, hF0])
      have zl := heap_lt (H.out.2.1.heap 1 rfl)
      obtain ⟨bv, hbv⟩ : ∃ b, b = (V.toList == P.toList) := ⟨_, rfl⟩
      have hbv2 : bv = decide (f0 = pre) := by rw [hbv, ByteArray.toList_eq, ByteArray.toList_eq, hV, H.out.2.2.2.2.2.2.2.2.1]; exact Bool.eq_iff_iff.2 (by simp)
      have hne : (V.toList == P.toList) = bv := hbv.symm
      have HP := Lib.hid (And.intro hp (And.intro hf0 (And.intro hbv2 hF0)))
      clear hp hf0 hbv hbv2 hF0 hV
      cases bv with
      | false =>
        have hno : nums T pre k = none := by
          have hh : F.headD [] ≠ pre := fun h => by
            have := HP.out.2.2.1
            rw [HP.out.2.1, h] at this
            simp at this
          rw [H.out.2.2.1, if_pos ⟨HP.out.1, hh⟩]
        obtain ⟨ud, hud⟩ : ∃ u : World, u = { W2 with drawn := W2.drawn + 1 } := ⟨_, rfl⟩
        have bud : Below W2.heap.size W2 ud := by rw [hud]; exact (Below.refl _ W2).drew
        go_upto_region 3 with fail
        refine wp_region_still_tail 7 (by kernel_rfl) (by kernel_rfl) ?_
        simp only [List.take_succ_cons, List.take_zero, List.drop_succ_cons, List.drop_zero]
        rw [← hud]
        have c4u := (bud.cell (p := ⟨db, 0, none⟩) zd).trans hd0
        have l0u := (bud.cell (p := ⟨lb, 0, none⟩) zl).trans l0
        have zlu := Nat.lt_of_lt_of_le zl bud.size
        have zdu := Nat.lt_of_lt_of_le zd bud.size
        have mu := (bud.cell (p := ⟨fb, 1, none⟩) (World.block_lt_of_cell? W2 _ hf2)).trans hf2
        have HUD := Lib.hid bud
        clear hud bud hd0 l0 zl zd hf2
        have hn00 : 0 < n := by omega
        have hn01 : (0 : Int) < (n : Int) := by omega
        repeat still_step
        refine wpStill_nil ?_
        go_wp2_with (go_at_call 118; refine (want_no fb num 3 ud mu).mono ?_; unfold FailE; rintro e w9 ⟨rfl, rfl⟩)
        have O9 := H.out.2.1.below HUD.out
        exact ⟨rfl, O9.bel, fun _ => rfl, fun vs h => by rw [hno] at h; cases h⟩
      | true =>
        go_upto_region 3 with fail
        go_quiet ((go_at_call 118; exact Calls.quiet_of_same (want_yes _ 3 _)))
        have hhd : F.headD [] = pre := by
          have := HP.out.2.2.1
          rw [← HP.out.2.1]
          simpa using this.symm
        have hgf : G = F.drop 1 := by rw [H.out.2.2.2.2.2.2.1, H.out.2.2.2.1]; unfold numsF; rw [if_neg HP.out.1]
        have hmn : m = n - 1 := by rw [H.out.2.2.2.2.2.2.2.1, hgf, List.length_drop, H.out.2.2.2.2.1]
        have hnm2 : nums T pre k = (if m = k then allN G else none) := by rw [H.out.2.2.1, if_neg (fun h => h.2 hhd)]
        have HG := Lib.hid (And.intro hgf (And.intro hmn hnm2))
        clear hgf hmn hnm2 hhd
        by_cases hn1 : n = 1
        · subst hn1
          go_wp2_with fail
          go_meet
          have hm0 : m = 0 := HG.out.2.1
          refine ⟨0, 0, nq, by rw [hm0], rfl, HG.out.2.2, fun j f hj => ?_⟩
          have := (List.getElem?_eq_some_iff.1 hj).1
          have h2 := H.out.2.2.2.2.2.2.2.1
          omega
        · have hnn : ¬ n - 1 = 0 := by omega
          go_wp2_with fail
          go_meet
          refine ⟨1, n - 1, nq, by rw [HG.out.2.1], rfl, HG.out.2.2, fun j f hj => ?_⟩
          refine (cell_of_heap (H.out.2.1.heap 1 rfl) _).trans ?_
          rw [HG.out.1, List.getElem?_drop] at hj
          simp [strs, hj]
  case rest =>
  obtain ⟨o, c, nq, rfl, rfl, hnm, hG⟩ := hcut
  obtain ⟨wz, hwz⟩ : ∃ u, u = W2.drewN nq := ⟨_, rfl⟩
  apply_assumption
  rw [← hwz]
  have b2z : Below W2.heap.size W2 wz := by rw [hwz]; exact below_drewN (Below.refl _ _) _
  have Oz := H.out.2.1.below b2z
  have mz := (b2z.cell (p := ⟨fb, 1, none⟩) (World.block_lt_of_cell? W2 _ hf2)).trans hf2
  have dz := (b2z.cell (p := ⟨db, 0, none⟩) zd).trans hd0
  have zdz := Nat.lt_of_lt_of_le zd b2z.size
  have HZ := Lib.hid (And.intro hnm (And.intro hG (And.intro b2z Oz)))
  clear hnm hG b2z Oz hwz hf2 hd0 zd hnl hn0 zS
  by_cases hmk : m = k
  · have hb : ((m : Int) == (k : Int)) = true := by rw [beq_iff_eq]; omega
    have hnm2 : nums T pre k = allN G := by rw [HZ.out.1, if_pos hmk]
    have hmk2 : m ≤ 1000 := by omega
    have Oy : Own w.heap.size w [.blk db (.cells #[.pointer (some ⟨fb, 0, none⟩)] 184), .blk lb (.cells (strs F).toArray 9), .own 3 1 none 0 0 [] []] wz := by
      have := HZ.out.2.2.2.new (i := .own 3 1 none 0 0 [] []) (Below.refl _ _) (OwnS.nil _ _ _) (by simp [It.fp])
      simpa using this
    have HM := Lib.hid (And.intro hnm2 (And.intro hmk Oy))
    clear hnm2 hmk Oy
    go_wp2_with (go_at_call 118; refine (want_yes _ 3 wz).mono ?_; rintro e w9 ⟨rfl, rfl⟩)
    go_loopg [10, 38] m (fun g a i wr => ∃ (j : Nat) (B : Option Addr) (d : Nat) (q vs : List Nat), g + j = m ∧ i = .int .i64 j ∧ a = .slice B j d ∧ allN (G.take j) = some vs ∧ Own w.heap.size w [.blk db (.cells #[.pointer (some ⟨fb, 0, none⟩)] 184), .blk lb (.cells (strs F).toArray 9), .own 3 1 B j d (ints (vs.map Int.ofNat)) q] wr)
    case atStart => exact ⟨0, none, 0, [], [], rfl, rfl, rfl, rfl, HM.out.2.2⟩
    case round =>
      obtain ⟨j, B, d, q, vs, hk', rfl, rfl, hvs, oo⟩ := hrel
      by_cases hlt : j < m
      · have hkG : j < G.length := by have := H.out.2.2.2.2.2.2.2.1; omega
        obtain ⟨f, hf⟩ : ∃ f, f = G[j]'hkG := ⟨_, rfl⟩
        obtain ⟨fB, hfB⟩ : ∃ b, b = bs f := ⟨_, rfl⟩
        have hl2 := oo.heap 1 rfl
        have hfl : f.length ≤ 1000000 := H.out.2.2.2.2.2.1 f (by
          have h1 : f ∈ G := by rw [hf]; exact List.getElem_mem _
          rw [H.out.2.2.2.2.2.2.1] at h1
          rw [H.out.2.2.2.1]
          unfold numsF at h1
          split at h1
          · exact h1
          · exact List.mem_of_mem_drop h1)
        have c0 : wr.cell? ⟨lb, o + j, none⟩ = some (.string fB) := by
          have h1 := HZ.out.2.1 j f (by rw [hf]; exact List.getElem?_eq_getElem hkG)
          have h2 := (cell_of_heap (H.out.2.1.heap 1 rfl) (o + j)).symm.trans h1
          rw [hfB]
          exact (cell_of_heap hl2 (o + j)).trans h2
        have zl := heap_lt hl2
        have kn := gNumber_any fB wr (by rw [hfB, bs_size]; exact hfl)
        rw [show fB.data.toList = f from by rw [hfB]] at kn
        have hsn := allN_snoc (G.take j) f
        rw [hf, ← List.take_succ_eq_append_getElem hkG, ← hf, hvs] at hsn
        have hd2 := oo.heap 0 rfl
        have d2 := (cell_of_heap hd2 0).trans rfl
        have zd2 := heap_lt hd2
        have m2 := (oo.bel.cell (p := ⟨fb, 1, none⟩) zf).trans H.out.2.2.2.2.2.2.2.2.2.2
        cases hnf : numB f with
        | none =>
          have hno : nums T pre k = none := by
            rw [HM.out.1]
            rw [hnf] at hsn
            exact allN_take_none G (j + 1) hsn
          obtain ⟨n1, n2, _⟩ := num_none hnf
          rw [n1, n2] at kn
          have HN := Lib.hid (And.intro oo (And.intro kn hno))
          clear oo kn hno hsn hnf hl2 hd2 hf hfB hvs n1 n2
          go_wp2_with (first
            | (go_at_call 125; refine HN.out.2.1.mono ?_; rintro e w8 ⟨rfl, rfl⟩)
            | (go_at_call 118; refine (want_no fb num 3 _ m2).mono ?_; unfold FailE; rintro e w9 ⟨rfl, rfl⟩))
          exact ⟨rfl, HN.out.1.bel, fun _ => rfl, fun vs h => by rw [HN.out.2.2] at h; cases h⟩
        | some v =>
          obtain ⟨n1, n2, _⟩ := num_some hnf
          rw [n1, n2] at kn
          rw [hnf] at hsn
          have HN := Lib.hid (And.intro oo (And.intro kn hsn))
          clear oo kn hsn hnf hl2 hd2 hf hfB hvs n1 n2
          go_wp2_with (first
            | (go_at_call 125; refine HN.out.2.1.mono ?_; rintro e w8 ⟨rfl, rfl⟩)
            | (go_at_call 118; refine (want_yes _ 3 _).mono ?_; rintro e w9 ⟨rfl, h9⟩; have h9' := h9.symm; clear h9; subst h9')
            | (at_builtin
               refine wpList_append_S (size := 1) rfl (.tmp 51) (.tmp 53) 24 rfl iI _ 8 Tryz.underlying24 hI0 hI1 hI2 (by decide) hI3 rfl (A := B) (n := j) (c := d) (xs := ints (vs.map Int.ofNat)) (fp := q) (by simp [Act.eval]) ⟨wr.heap.size, 0, none⟩ (by simp [Act.eval]) [Value.int .i64 (v : Nat)] (((HN.out.1).below ((Below.refl _ _).alloc (Nat.le_refl _) _)).get 2 rfl) rfl ?_ (by intro u hu; simp at hu; rcases hu with rfl; rfl) (by omega) (by decide) ?_
               · intro u v hv
                 rw [show (⟨wr.heap.size, 0, none⟩ : Addr).add u = ⟨wr.heap.size, u, none⟩ from by simp [Addr.add]; omega, World.cell?_alloc_new]
                 simpa using hv
               intro g c' w5 q1 q2 q3 q4
               have SB := ((HN.out.1).below ((Below.refl _ _).alloc (Nat.le_refl _) (.cells #[Value.int .i64 (v : Nat)] 3))).upd 2 rfl (i' := It.own 3 1 (some ⟨g, 0, none⟩) (j + 1) c' (ints (vs.map Int.ofNat) ++ [Value.int .i64 (v : Nat)]) [g]) q4 q1 (fun u hu => by rw [List.mem_singleton.1 hu]; rcases q2 with e | e; exact .inl e; exact .inr (Nat.le_of_eq e))
               have HQ := Lib.hid SB
               clear SB q1 q2 q3 q4))
          go_roundg (gk - 1)
          case measure => omega
          case rel =>
            refine ⟨j + 1, some ⟨g, 0, none⟩, c', [g], vs ++ [v], by omega, by go_num, rfl, HN.out.2.2, ?_⟩
            have := HQ.out
            rw [show ints (vs.map Int.ofNat) ++ [Value.int .i64 v] = ints ((vs ++ [v]).map Int.ofNat) from by simp [ints]] at this
            exact this
      · obtain rfl : j = m := by omega
        rw [List.take_of_length_le (by have := H.out.2.2.2.2.2.2.2.1; omega)] at hvs
        have hvl : vs.length = j := by rw [allN_len hvs]; exact H.out.2.2.2.2.2.2.2.1.symm
        have HV := Lib.hid (And.intro oo (And.intro hvs hvl))
        clear oo hvs hvl
        go_wp2_with fail
        go_ret
        obtain ⟨oo, hvs, hvl⟩ := HV.out
        refine ⟨oo.bel, fun h => ?_, fun us h => ?_⟩
        · rw [HM.out.1, hvs] at h; cases h
        · rw [HM.out.1, hvs] at h
          injection h with h
          subst h
          rw [hvl]
          exact ⟨B, d, q, rfl, oo.owns 2 rfl, fun x hx => oo.ge 2 rfl hx⟩
  · have hno : nums T pre k = none := by rw [HZ.out.1, if_neg hmk]
    have hb : ((m : Int) == (k : Int)) = false := by rw [beq_eq_false_iff_ne]; omega
    have HN := Lib.hid hno
    clear hno hmk
    go_wp2_with (go_at_call 118; refine (want_no fb num 3 wz mz).mono ?_; unfold FailE; rintro e w9 ⟨rfl, rfl⟩)
    exact ⟨rfl, HZ.out.2.2.2.bel, fun _ => rfl, fun vs h => by rw [HN.out] at h; cases h⟩
end Go.Proofs.YtaokegobilphnaaGreatDoor
