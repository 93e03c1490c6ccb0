/- The walk of RestrictReviewed. -/
import Derived.Test.YtfmhlnfcbbpfeaaReviewedP
import Derived.Test.YtfmhlnfcbbpfeaaAwakeC
import Derived.Deep.DeepCutAuto
namespace Go.Proofs.Ytfmhlnfcbbpfeaa
open Go Go.RowKit Sp
set_option linter.unusedVariables false

theorem Keep.polV {S : List Nat} {w w' : World} {A : Option Addr} {c : Nat} {p : Pol} (h : PolV w A c p) (hk : Keep S w w') (hn : ∀ b off, A = some ⟨b, off, none⟩ → b ∉ S) : PolV w' A c p := ⟨h.1, h.2.1, hk.rd h.2.2 hn⟩

theorem review_ok (As : Option Addr) (cs : Nat) (p : Pol) (A : Option Addr) (c : Nat) (days : List Int) (Al : Option Addr) (cl : Nat) (l : List Psg) (n : Nat) (w : World) (hn : l.length = n) (hst : startS p days = 0) (hE : ∀ x ∈ l, psgE days.length x = 0) (h5 : l.length ≤ 500) (hp : PolV w As cs p) (hr : Rd w 1 A days.length (ints days)) (hm : days.length ≤ 9223372036854775807)
    (hrl : Rd w 5 Al l.length (pscs l)) :
    Calls Try.prog 15 #[.agg #[.slice As p.steps.length cs, .int .i64 p.hold, .int .i64 p.calm, .int .i64 p.notice, .int .i64 p.grace], .slice A days.length c, .slice Al n cl] w
      fun e w' => ∃ A c, e = .returned (.tuple #[.slice A n c, .int .i64 0]) ∧ Rd w' 1 A n (ints (l.map (outcome p days))) ∧ Below w.heap.size w w' := by
  have e0 : reviewE p days l = 0 := by rw [review_psgs hst (by omega)]; exact psgsE_zero hE
  have e1 : reviewS p days l = l.map (outcome p days) := by unfold reviewS; rw [if_pos e0]
  subst hn
  refine (Review_any As cs p A c days Al cl l w hp hr hm hrl (by omega)).mono ?_
  rintro e w' ⟨A, c, rfl, h1, h2⟩
  rw [e0, e1] at *
  rw [List.length_map]
  exact ⟨A, c, rfl, by have := h1.1; rwa [List.length_map] at this, h2⟩
theorem may_ok {p : Pol} {days : List Int} {v : Ves} {k : Nat} (hst : startS p days = 0) (hv : vright v = true) (hk : k < days.length) : mayE p days v k = 0 ∧ mayB p days v k = (passesS p days v).getD k false := by
  have e0 : askS p days v = 0 := by rw [ask_right hst, hv]; rfl
  have e1 : mayE p days v k = 0 := by rw [may_day e0, if_pos (by simp [within]; omega)]
  exact ⟨e1, by unfold mayB; rw [if_pos e1, Int.toNat_natCast]⟩
theorem psgE_ok {n : Nat} {v : Ves} {a z : Nat} (hv : vright v = true) (h1 : a ≤ z) (h2 : z < n) : psgE n ⟨v, a, z⟩ = 0 := by
  unfold psgE
  rw [hv]
  have w1 : within (a : Int) 0 ((n : Int) - 1) = true := by simp [within]; omega
  have w2 : within (z : Int) a ((n : Int) - 1) = true := by simp [within]; omega
  simp [w1, w2]

set_option maxRecDepth 100000 in
set_option maxHeartbeats 4000000 in
theorem reviewed_any (A1 : Option Addr) (c1 : Nat) (l1 : List Int) (A2 : Option Addr) (c2 : Nat) (l2 : List Int) (en le ls gr cl tn : Int) (w : World) (hr1 : Rd w 1 A1 l1.length (byts l1)) (hl1 : Bytes l1) (hm1 : l1.length ≤ 9223372036854775800) (hr2 : Rd w 1 A2 l2.length (byts l2)) (hl2 : Bytes l2) (hm2 : l2.length ≤ 9223372036854775800)
    (h1 : 0 ≤ en ∧ en ≤ 255) (h2 : 0 ≤ le ∧ le ≤ 255) (h3 : 0 ≤ ls ∧ ls ≤ 255) (h4 : 0 ≤ gr ∧ gr ≤ 255) (h5 : 0 ≤ cl ∧ cl ≤ 255) (h6 : 0 ≤ tn ∧ tn ≤ 255) :
    Calls Try.prog 3 #[.slice A1 l1.length c1, .slice A2 l2.length c2, .int .u8 en, .int .u8 le, .int .u8 ls, .int .u8 gr, .int .u8 cl, .int .u8 tn] w fun e w' => e = .returned (.bool true) ∧ Below w.heap.size w w' := by
  have H0 := Lib.hid (And.intro hr1 (And.intro hl1 (And.intro hm1 (And.intro hr2 (And.intro hl2 hm2)))))
  clear hr1 hl1 hm1 hr2 hl2 hm2
  go_enter Try.func3, Try.ntmps3
  go_wp2_with fail
  refine (Made_any A1 c1 l1 w H0.out.1 H0.out.2.1 (by have := H0.out.2.2.1; omega)).mono ?_
  rintro e w1 ⟨As, cs, rfl, hp1, b1⟩
  obtain ⟨p, hp⟩ : ∃ p, p = madeP l1 := ⟨_, rfl⟩
  rw [← hp] at hp1 ⊢
  have HP := Lib.hid (And.intro hp (And.intro hp1 b1))
  clear hp hp1 b1
  go_wp2_with fail
  refine (past_any A2 c2 l2 w1 (H0.out.2.2.2.1.below HP.out.2.2) H0.out.2.2.2.2.1 H0.out.2.2.2.2.2).mono ?_
  rintro e w2 ⟨Ad, cd, days, rfl, hrd, hok, hl90, hcd, hmd, b2⟩
  have hck : checkS p = 0 := by rw [HP.out.1]; exact made_check' l1
  have hst : startS p days = 0 := start_zero hck hok (by omega)
  have HD := Lib.hid (And.intro hrd (And.intro hok (And.intro b2 (And.intro hck hst))))
  clear hrd hok b2 hck hst
  go_upto_region 2 with fail
  obtain ⟨W, hW⟩ : ∃ W, W = w2.alloc (.cells #[.slice As p.steps.length cs, .int .i64 p.hold, .int .i64 p.calm, .int .i64 p.notice, .int .i64 p.grace] 25) := ⟨_, rfl⟩
  obtain ⟨pb, hpb⟩ : ∃ pb, pb = w2.heap.size := ⟨_, rfl⟩
  rw [← hW, ← hpb]
  have bW : Below w.heap.size w W := by rw [hW]; exact ((HP.out.2.2.trans (HD.out.2.2.1.mono HP.out.2.2.size)).alloc (Nat.le_trans HP.out.2.2.size HD.out.2.2.1.size) _)
  have b2W : Below w2.heap.size w2 W := by rw [hW]; exact (Below.refl _ _).alloc (Nat.le_refl _) _
  have pW : PolV W As cs p := (HP.out.2.1.below HD.out.2.2.1).below b2W
  have dW : Rd W 1 Ad days.length (ints days) := HD.out.1.below b2W
  have q : ∀ j u, (#[Value.slice As p.steps.length cs, .int .i64 p.hold, .int .i64 p.calm, .int .i64 p.notice, .int .i64 p.grace] : Array Value)[j]? = some u → W.cell? ⟨pb, j, none⟩ = some u := fun j u hu => by rw [hW, hpb, World.cell?_alloc_new]; exact hu
  have q0 := q 0 _ rfl
  have q1 := q 1 _ rfl
  have q2 := q 2 _ rfl
  have q3 := q 3 _ rfl
  have q4 := q 4 _ rfl
  have zp : pb < W.heap.size := by rw [hW, hpb]; simp
  have HW := Lib.hid (And.intro bW (And.intro pW dW))
  clear q hW hpb b2W bW pW dW
  by_cases hn : days.length = 0
  · have hnb : ((days.length : Int) == 0) = true := by simp [hn]
    have hE : reviewE p days [⟨⟨0, 0, false⟩, 0, 0⟩] = 6 := by
      rw [review_psgs HD.out.2.2.2.2 (by simp), hn]; rfl
    have hRv := (Review_any As cs p Ad cd days (some ⟨W.heap.size, 0, none⟩) 1 [⟨⟨0, 0, false⟩, 0, 0⟩] (W.alloc (.cells #[.int .i64 0, .int .i64 0, .bool false, .int .i64 0, .int .i64 0] 35)) (HW.out.2.1.below ((Below.refl _ _).alloc (Nat.le_refl _) _)) (HW.out.2.2.below ((Below.refl _ _).alloc (Nat.le_refl _) _)) (by omega) (rd_lit W 5 1 (pscs [⟨⟨0, 0, false⟩, 0, 0⟩]) 35 rfl) (by simp))
    have HE := Lib.hid (And.intro hE hRv)
    clear hn hE hRv
    go_wp2_with fail
    refine HE.out.2.mono ?_
    rintro e w3 ⟨Ar, cr, rfl, _, b3⟩
    rw [HE.out.1]
    have B3 := Lib.hid b3
    clear b3
    go_wp2_with fail
    refine (awake_any _).mono ?_
    rintro e w4 ⟨rfl, b4⟩
    have B4 := Lib.hid b4
    clear b4
    go_wp2_with fail
    go_ret
    have bb : Below w.heap.size w w3 := (HW.out.1.alloc HW.out.1.size _).trans (B3.out.mono (by have := HW.out.1.size; simp; omega))
    exact ⟨rfl, bb.trans (B4.out.mono bb.size)⟩
  · have hnb : ((days.length : Int) == 0) = false := by simp [hn]
    obtain ⟨a0, ha0⟩ : ∃ a0 : Nat, en % (days.length : Int) = a0 := ⟨(en % (days.length : Int)).toNat, by have := Int.emod_nonneg en (b := (days.length : Int)) (by omega); omega⟩
    obtain ⟨b0, hb0⟩ : ∃ b0 : Nat, le % (days.length : Int) = b0 := ⟨(le % (days.length : Int)).toNat, by have := Int.emod_nonneg le (b := (days.length : Int)) (by omega); omega⟩
    have ha0' : a0 < days.length := by have := Int.emod_lt_of_pos en (b := (days.length : Int)) (by omega); omega
    have hb0' : b0 < days.length := by have := Int.emod_lt_of_pos le (b := (days.length : Int)) (by omega); omega
    have t1 : en.tmod (days.length : Int) = a0 := by rw [Int.tmod_eq_emod_of_nonneg (by omega)]; exact ha0
    have t2 : le.tmod (days.length : Int) = b0 := by rw [Int.tmod_eq_emod_of_nonneg (by omega)]; exact hb0
    have t3 : IntKind.i64.wrap en = en := IntWalk.i64_in _ (by omega)
    have t4 : IntKind.i64.wrap le = le := IntWalk.i64_in _ (by omega)
    have t5 : IntKind.i64.wrap (a0 : Int) = a0 := IntWalk.i64_in _ (by omega)
    have t6 : IntKind.i64.wrap (b0 : Int) = b0 := IntWalk.i64_in _ (by omega)
    have t7 : ¬ (days.length = 0) := hn
    go_upto_region 5 with fail
    go_quiet (fail)
    obtain ⟨V, hV⟩ : ∃ V, V = W.drewN nq := ⟨_, rfl⟩
    rw [← hV]
    have bV : Below W.heap.size W V := by rw [hV]; exact below_drewN (Below.refl _ _) _
    obtain ⟨a, ha⟩ : ∃ a, a = min a0 b0 := ⟨_, rfl⟩
    obtain ⟨z, hz⟩ : ∃ z, z = max a0 b0 := ⟨_, rfl⟩
    have haz : a ≤ z := by omega
    have hzn : z < days.length := by omega
    have HA := Lib.hid (And.intro ha hz)
    have HV := Lib.hid (And.intro bV (And.intro ((bV.cell (p := ⟨pb, 0, none⟩) zp).trans q0) (And.intro ((bV.cell (p := ⟨pb, 1, none⟩) zp).trans q1) (And.intro ((bV.cell (p := ⟨pb, 2, none⟩) zp).trans q2) (And.intro ((bV.cell (p := ⟨pb, 3, none⟩) zp).trans q3) (And.intro ((bV.cell (p := ⟨pb, 4, none⟩) zp).trans q4) (Nat.lt_of_lt_of_le zp bV.size)))))))
    clear zp hV ha hz t1 t2 t3 t4 t5 t6 t7 ha0 hb0 bV q0 q1 q2 q3 q4
    go_upto_if 64 with fail
    go_cut [21, 22] (fun x y wx => x = .int .i64 a ∧ y = .int .i64 z ∧ wx = V)
    case first =>
      by_cases hab : b0 < a0
      · go_wp2_with fail
        go_meet
        exact ⟨by rw [show a = b0 from by have := HA.out; omega], by rw [show z = a0 from by have := HA.out; omega], rfl⟩
      · go_wp2_with fail
        go_meet
        exact ⟨by rw [show a = a0 from by have := HA.out; omega], by rw [show z = b0 from by have := HA.out; omega], rfl⟩
    case rest =>
      obtain ⟨rfl, rfl, rfl⟩ := hcut
      obtain ⟨bV, q0, q1, q2, q3, q4, zp⟩ := HV.out
      have hg : 0 ≤ p.grace ∧ p.grace ≤ 60 := by have := check_ok HD.out.2.2.2.1; omega
      go_upto_region 12 with fail
      obtain ⟨x, hx⟩ : ∃ x, x = cl % 7 := ⟨_, rfl⟩
      obtain ⟨t, ht⟩ : ∃ t, t = 100 * tn := ⟨_, rfl⟩
      obtain ⟨G, hG⟩ : ∃ G, G = p.grace + gr % 20 := ⟨_, rfl⟩
      obtain ⟨y, hy⟩ : ∃ y : Nat, (if (a : Int) < (z : Int) - ls % 10 then (z : Int) - ls % 10 else (a : Int)) = y := ⟨(if (a : Int) < (z : Int) - ls % 10 then (z : Int) - ls % 10 else (a : Int)).toNat, by split <;> omega⟩
      have hya : a ≤ y ∧ y ≤ z := by split at hy <;> omega
      rw [hy, ← hx, ← ht, ← hG]
      obtain ⟨X0, hX0⟩ : ∃ X0, X0 = ((wc.alloc (.cells #[.int .i64 x, .int .i64 t, .bool false] 33)).alloc (.cells #[.slice As p.steps.length cs, .int .i64 p.hold, .int .i64 p.calm, .int .i64 p.notice, .int .i64 G] 25)) := ⟨_, rfl⟩
      obtain ⟨vb, hvb⟩ : ∃ vb, vb = wc.heap.size := ⟨_, rfl⟩
      obtain ⟨qb, hqb⟩ : ∃ qb, qb = vb + 1 := ⟨_, rfl⟩
      rw [← hX0, ← hvb, ← hqb]
      have bX : Below W.heap.size W X0 := by rw [hX0]; exact (bV.alloc bV.size _).alloc (by have := bV.size; simp; omega) _
      have vh : X0.heap[vb]? = some (.cells #[.int .i64 x, .int .i64 t, .bool false] 33 (0, 0)) := by
        rw [hX0, hvb]; exact heap_alloc' (heap_alloc_new _ _) _
      have qh : X0.heap[qb]? = some (.cells #[.slice As p.steps.length cs, .int .i64 p.hold, .int .i64 p.calm, .int .i64 p.notice, .int .i64 G] 25 (0, 0)) := by
        rw [hX0, hqb, hvb]
        have := heap_alloc_new (wc.alloc (.cells #[.int .i64 x, .int .i64 t, .bool false] 33)) (.cells #[.slice As p.steps.length cs, .int .i64 p.hold, .int .i64 p.calm, .int .i64 p.notice, .int .i64 G] 25)
        rw [World.size_alloc] at this
        exact this
      have bc : Below wc.heap.size wc X0 := by rw [hX0]; exact ((Below.refl _ _).alloc (Nat.le_refl _) _).alloc (by simp) _
      have FX : ∀ X, Below X0.heap.size X0 X → (X.cell? ⟨pb, 0, none⟩ = some (.slice As p.steps.length cs) ∧ X.cell? ⟨pb, 1, none⟩ = some (.int .i64 p.hold) ∧ X.cell? ⟨pb, 2, none⟩ = some (.int .i64 p.calm) ∧ X.cell? ⟨pb, 3, none⟩ = some (.int .i64 p.notice) ∧ X.cell? ⟨pb, 4, none⟩ = some (.int .i64 p.grace)) ∧
          (X.cell? ⟨vb, 0, none⟩ = some (.int .i64 x) ∧ X.cell? ⟨vb, 1, none⟩ = some (.int .i64 t) ∧ X.cell? ⟨vb, 2, none⟩ = some (.bool false)) ∧
          (X.cell? ⟨qb, 0, none⟩ = some (.slice As p.steps.length cs) ∧ X.cell? ⟨qb, 1, none⟩ = some (.int .i64 p.hold) ∧ X.cell? ⟨qb, 2, none⟩ = some (.int .i64 p.calm) ∧ X.cell? ⟨qb, 3, none⟩ = some (.int .i64 p.notice) ∧ X.cell? ⟨qb, 4, none⟩ = some (.int .i64 G)) ∧ PolV X As cs p ∧ Rd X 1 Ad days.length (ints days) ∧ Below w.heap.size w X := by
        intro X hX
        have k : ∀ {j : Nat} {u : Value}, wc.cell? ⟨pb, j, none⟩ = some u → X.cell? ⟨pb, j, none⟩ = some u := fun h => (hX.cell (Nat.lt_of_lt_of_le zp bc.size)).trans ((bc.cell zp).trans h)
        have kv : ∀ j, X.cell? ⟨vb, j, none⟩ = _ := fun j => (hX.cell (heap_lt vh)).trans (cell_of_heap vh j)
        have kq : ∀ j, X.cell? ⟨qb, j, none⟩ = _ := fun j => (hX.cell (heap_lt qh)).trans (cell_of_heap qh j)
        have bb : Below W.heap.size W X := bX.trans (hX.mono bX.size)
        exact ⟨⟨k q0, k q1, k q2, k q3, k q4⟩, ⟨kv 0, kv 1, kv 2⟩, ⟨kq 0, kq 1, kq 2, kq 3, kq 4⟩, HW.out.2.1.below bb, HW.out.2.2.below bb, HW.out.1.trans (bb.mono HW.out.1.size)⟩
      have HF := Lib.hid FX
      have HXT := Lib.hid (And.intro hx (And.intro ht (And.intro hG hg)))
      clear hX0 hvb hqb bX vh qh bc FX q0 q1 q2 q3 q4 zp bV hx ht hG hg hy
      obtain ⟨⟨q0, q1, q2, q3, q4⟩, ⟨v0, v1, v2⟩, _, _, _, _⟩ := HF.out X0 (Below.refl _ _)
      obtain ⟨v, hv⟩ : ∃ v : Ves, v = ⟨x, t, false⟩ := ⟨_, rfl⟩
      have hvr : vright v = true := by
        obtain ⟨e1, e2, _⟩ := HXT.out
        rw [hv]; simp [vright, within]; omega
      have hck : checkS { p with grace := G } = 0 := by
        obtain ⟨_, _, e3, e4⟩ := HXT.out
        have hgr : p.grace = draw l1 3 6 := by rw [HP.out.1]; rfl
        have hgb := draw_range (l := l1) 3 (n := 6) (by decide)
        rw [HP.out.1]; exact made_check l1 (by omega)
      have hsq : startS { p with grace := G } days = 0 := start_zero hck HD.out.2.1 (by omega)
      obtain ⟨o1, ho1⟩ : ∃ o, o = outcome p days ⟨v, a, z⟩ := ⟨_, rfl⟩
      obtain ⟨o2, ho2⟩ : ∃ o, o = outcome p days ⟨v, a, y⟩ := ⟨_, rfl⟩
      obtain ⟨o3, ho3⟩ : ∃ o, o = outcome p days ⟨v, a, a⟩ := ⟨_, rfl⟩
      obtain ⟨o4, ho4⟩ : ∃ o, o = outcome { p with grace := G } days ⟨v, a, z⟩ := ⟨_, rfl⟩
      obtain ⟨m, hm⟩ : ∃ m, m = (passesS p days v).getD a false := ⟨_, rfl⟩
      have hR1 : ∀ o, o = Obj.cells #[.int .i64 x, .int .i64 t, .bool false, .int .i64 a, .int .i64 z, .int .i64 x, .int .i64 t, .bool false, .int .i64 a, .int .i64 y, .int .i64 x, .int .i64 t, .bool false, .int .i64 a, .int .i64 a] 35 → Calls Try.prog 15 #[.agg #[.slice As p.steps.length cs, .int .i64 p.hold, .int .i64 p.calm, .int .i64 p.notice, .int .i64 p.grace], .slice Ad days.length cd, .slice (some ⟨X0.heap.size, 0, none⟩) 3 3] (X0.alloc o)
          fun e w' => ∃ A c, e = .returned (.tuple #[.slice A 3 c, .int .i64 0]) ∧ Rd w' 1 A 3 (ints [o1, o2, o3]) ∧ Below X0.heap.size X0 w' := by
        rintro o rfl
        have b0 : ∀ o, Below X0.heap.size X0 (X0.alloc o) := fun o => (Below.refl _ _).alloc (Nat.le_refl _) _
        refine (review_ok As cs p Ad cd days (some ⟨X0.heap.size, 0, none⟩) 3 [⟨v, a, z⟩, ⟨v, a, y⟩, ⟨v, a, a⟩] 3 _ rfl HD.out.2.2.2.2 ?_ (by simp) ((HF.out _ (b0 _)).2.2.2.1) ((HF.out _ (b0 _)).2.2.2.2.1) (by omega) ?_).mono ?_
        · intro q hq
          simp at hq
          rcases hq with rfl | rfl | rfl
          · exact psgE_ok hvr haz hzn
          · exact psgE_ok hvr hya.1 (by omega)
          · exact psgE_ok hvr (Nat.le_refl a) (by omega)
        · rw [hv]; exact rd_lit X0 5 3 (pscs [⟨⟨x, t, false⟩, a, z⟩, ⟨⟨x, t, false⟩, a, y⟩, ⟨⟨x, t, false⟩, a, a⟩]) 35 rfl
        · rintro e w' ⟨A, c, rfl, h1, h2⟩
          refine ⟨A, c, rfl, ?_, (b0 _).trans (h2.mono (by simp))⟩
          rw [ho1, ho2, ho3]; exact h1
      have HR1 := Lib.hid hR1
      have HV2 := Lib.hid (And.intro hv (And.intro hvr (And.intro hsq hck)))
      have HO := Lib.hid (And.intro ho1 (And.intro ho2 (And.intro ho3 (And.intro ho4 hm))))
      clear hR1 hv hvr hck hsq ho1 ho2 ho3 ho4 hm
      go_wp2_with fail
      refine (HR1.out _ rfl).mono ?_
      rintro e X1 ⟨A1', c1', rfl, r1, b1⟩
      obtain ⟨_, ⟨v0, v1, v2⟩, ⟨g0, g1, g2, g3, g4⟩, pX, dX, _⟩ := HF.out X1 b1
      have hR2 : ∀ o, o = Obj.cells #[.int .i64 x, .int .i64 t, .bool false, .int .i64 a, .int .i64 z] 35 → Calls Try.prog 15 #[.agg #[.slice As p.steps.length cs, .int .i64 p.hold, .int .i64 p.calm, .int .i64 p.notice, .int .i64 G], .slice Ad days.length cd, .slice (some ⟨X1.heap.size, 0, none⟩) 1 1] (X1.alloc o)
          fun e w' => ∃ A c, e = .returned (.tuple #[.slice A 1 c, .int .i64 0]) ∧ Rd w' 1 A 1 (ints [o4]) ∧ Below X1.heap.size X1 w' := by
        rintro o rfl
        have b0 : ∀ o, Below X1.heap.size X1 (X1.alloc o) := fun o => (Below.refl _ _).alloc (Nat.le_refl _) _
        refine (review_ok As cs { p with grace := G } Ad cd days (some ⟨X1.heap.size, 0, none⟩) 1 [⟨v, a, z⟩] 1 _ rfl HV2.out.2.2.1 ?_ (by simp) (pX.below (b0 _)) (dX.below (b0 _)) (by omega) ?_).mono ?_
        · intro q hq
          simp at hq
          rcases hq with rfl
          exact psgE_ok HV2.out.2.1 haz hzn
        · rw [HV2.out.1]; exact rd_lit X1 5 1 (pscs [⟨⟨x, t, false⟩, a, z⟩]) 35 rfl
        · rintro e w' ⟨A, c, rfl, h1, h2⟩
          refine ⟨A, c, rfl, ?_, (b0 _).trans (h2.mono (by simp))⟩
          rw [HO.out.2.2.2.1]; exact h1
      have HR2 := Lib.hid hR2
      have HB1 := Lib.hid (And.intro b1 r1)
      clear hR2 b1 r1 pX dX q0 q1 q2 q3 q4
      go_wp2_with fail
      refine (HR2.out _ rfl).mono ?_
      rintro e X2 ⟨A2', c2', rfl, r2, b2⟩
      have b02 : Below X0.heap.size X0 X2 := HB1.out.1.trans (b2.mono HB1.out.1.size)
      clear v0 v1 v2 g0 g1 g2 g3 g4
      obtain ⟨⟨q0, q1, q2, q3, q4⟩, ⟨v0, v1, v2⟩, _, pX, dX, _⟩ := HF.out X2 b02
      have hMy : Calls Try.prog 17 #[.agg #[.slice As p.steps.length cs, .int .i64 p.hold, .int .i64 p.calm, .int .i64 p.notice, .int .i64 p.grace], .slice Ad days.length cd, .agg #[.int .i64 x, .int .i64 t, .bool false], .int .i64 a] X2
          fun e w' => e = .returned (.tuple #[.bool m, .int .i64 0]) ∧ Below X2.heap.size X2 w' := by
        refine (May_any As cs p Ad cd days ⟨x, t, false⟩ a X2 pX dX (by omega)).mono ?_
        rintro e w' ⟨rfl, h2⟩
        have hm := may_ok (k := a) HD.out.2.2.2.2 HV2.out.2.1 (by omega)
        rw [← HV2.out.1, hm.1, hm.2, ← HO.out.2.2.2.2]
        exact ⟨rfl, h2⟩
      have HMy := Lib.hid hMy
      have HB2 := Lib.hid (And.intro b02 (r2.below (Below.refl _ _)))
      have r1 := HB1.out.2.below b2
      have HB3 := Lib.hid (And.intro b2 r1)
      clear hMy b02 b2 r1 pX dX r2
      go_wp2_with fail
      refine HMy.out.mono ?_
      rintro e X3 ⟨rfl, b3⟩
      have b03 : Below X0.heap.size X0 X3 := HB2.out.1.trans (b3.mono HB2.out.1.size)
      have r1 := HB3.out.2.below b3
      have r2 := HB2.out.2.below b3
      obtain ⟨e1, f1, rfl, _, k1⟩ := r1.2 (by omega)
      obtain ⟨e2, f2, rfl, _, k2⟩ := r2.2 (by omega)
      have c0 : X3.cell? ⟨e1, f1, none⟩ = some (.int .i64 o1) := k1 0 _ rfl
      have c1 : X3.cell? ⟨e1, f1 + 1, none⟩ = some (.int .i64 o2) := k1 1 _ rfl
      have c2 : X3.cell? ⟨e1, f1 + 2, none⟩ = some (.int .i64 o3) := k1 2 _ rfl
      have c3 : X3.cell? ⟨e2, f2, none⟩ = some (.int .i64 o4) := k2 0 _ rfl
      have HB4 := Lib.hid (HF.out X3 b03).2.2.2.2.2
      have hpas := HO.out.2.2.2.2
      clear b3 b03 r1 r2 k1 k2 v0 v1 v2 q0 q1 q2 q3 q4
      have fin : ∀ X4, Below X3.heap.size X3 X4 → Below w.heap.size w X4 := fun X4 h => HB4.out.trans (h.mono HB4.out.size)
      have HFi := Lib.hid fin
      clear fin
      cases m
      · have l1 : o1 = 1 := HO.out.1.trans (law_not (by omega) haz hpas.symm)
        have l2 : o2 = 1 := HO.out.2.1.trans (law_not (by omega) hya.1 hpas.symm)
        have l3 : o3 = 1 := HO.out.2.2.1.trans (law_not (by omega) (Nat.le_refl a) hpas.symm)
        have l4 : o4 = 1 := HO.out.2.2.2.1.trans (law_not (by omega) haz hpas.symm)
        have HPA := Lib.hid hpas
        clear hpas HO
        subst l1 l2 l3 l4
        go_wp2_with fail
        refine (awake_any _).mono ?_
        rintro e X4 ⟨rfl, b4⟩
        have B4 := Lib.hid b4
        clear b4
        go_wp2_with fail
        go_ret
        exact ⟨rfl, HFi.out _ B4.out⟩
      · have l3 : o3 = 0 := HO.out.2.2.1.trans (law_one (by omega) hpas.symm (by have := HXT.out.2.2.2; omega))
        have l1 := law_range p days v a z
        have l1' := law_yes (p := p) (v := v) (a := a) (z := z) (by omega) haz hpas.symm
        rw [← HO.out.1] at l1 l1'
        subst l3
        rcases l1 with e0 | e0 | e0
        · have l2 : o2 = 0 := HO.out.2.1.trans (law_shorter (z := z) (by omega) hya.1 hya.2 (HO.out.1.symm.trans e0))
          have l4 : o4 = 0 := HO.out.2.2.2.1.trans (law_grace (by have := HXT.out.2.2.1; omega) (HO.out.1.symm.trans e0))
          clear hpas HO l1'
          subst e0 l2 l4
          go_wp2_with fail
          refine (awake_any _).mono ?_
          rintro e X4 ⟨rfl, b4⟩
          have B4 := Lib.hid b4
          clear b4
          go_wp2_with fail
          go_ret
          exact ⟨rfl, HFi.out _ B4.out⟩
        · exact absurd e0 l1'
        · clear hpas HO l1'
          subst e0
          go_wp2_with fail
          refine (awake_any _).mono ?_
          rintro e X4 ⟨rfl, b4⟩
          have B4 := Lib.hid b4
          clear b4
          go_wp2_with fail
          go_ret
          exact ⟨rfl, HFi.out _ B4.out⟩
end Go.Proofs.Ytfmhlnfcbbpfeaa
