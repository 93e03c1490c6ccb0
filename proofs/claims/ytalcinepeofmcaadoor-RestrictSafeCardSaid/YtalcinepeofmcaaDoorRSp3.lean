/- The rules of layer 8 at work: raised, kept. -/
import Derived.Test.YtalcinepeofmcaaDoorRSp1
import Derived.Test.YtalcinepeofmcaaDoorRSp0
import Derived.Test.YtalcinepeofmcaaDoorRSp2
import Derived.Deep.RegionHeld3
import Derived.Laws.MakeOwn
set_option linter.unusedVariables false
set_option linter.unusedSimpArgs false
namespace Go.Proofs.YtalcinepeofmcaaDoor
open Go Go.RowKit Sp

theorem win_new (w : World) (wide : Int) (gr : Bool) : Win (w.alloc (.cells #[.int .i64 wide, .int .i64 0, .bool gr, .slice none 0 0, .slice none 0 0] 156)) w.heap.size wide 0 gr [] [w.heap.size] := by
  refine ⟨none, 0, none, 0, [], [], rfl, Keep.refl _ _, heap_alloc_new w _, OwnA.nil _ _, OwnA.nil _ _, by simp, by simp, by simp, by simp, by simp⟩

theorem PolAt.below {w w' : World} {pb : Nat} {p : Pol} (h : PolAt w pb p) (hb : Below w.heap.size w w') : PolAt w' pb p := by
  obtain ⟨A, c, hh, h1, h2, h3⟩ := h
  exact ⟨A, c, (hb.block pb (heap_lt hh)).trans hh, h1, h2, h3.below hb⟩

def raisedPost (w : World) (p : Pol) (days : List Int) (e : Ending) (w' : World) : Prop :=
  ∃ A c q, e = .returned (.slice A days.length c) ∧ OwnA w' 3 A days.length c (ints (raisedS p days)) q ∧ (∀ g ∈ q, w.heap.size ≤ g) ∧ Below w.heap.size w w'

set_option maxHeartbeats 1000000 in
theorem raised_any (pb : Nat) (p : Pol) (A : Option Addr) (c : Nat) (days : List Int) (w : World) (hp : PolAt w pb p) (hh : 1 ≤ p.hold ∧ p.hold ≤ 1000) (hr : Rd w 1 A days.length (ints days)) (hl : days.length ≤ 100000) :
    Calls Tryd.prog 80 #[.agg #[.pointer (some ⟨pb, 0, none⟩)], .slice A days.length c] w (raisedPost w p days) := by
  have hp0 := hp
  obtain ⟨As, cs, hpb, hnc, hcm, hrs⟩ := hp
  have hlt := heap_lt hpb
  have c1 := cell_of_heap hpb 1
  simp at c1
  obtain ⟨h1, h2⟩ := hh
  have HP := Lib.hid hp0
  clear hpb hnc hcm hrs hp0
  go_enter Tryd.func80, Tryd.ntmps80
  go_wp2_with fail
  -- each(days, push)
  have hwin : ∀ wx : World, Win (wx.alloc (.cells #[.int .i64 p.hold, .int .i64 0, .bool false, .slice none 0 0, .slice none 0 0] 156)) wx.heap.size p.hold 0 false [] [wx.heap.size] := fun wx => win_new wx _ _
  refine (each_any (w.heap.size + 1) p.hold false A c days _ (by have := hwin (w.alloc (.cells #[.pointer (some ⟨pb, 0, none⟩)] 101)); simpa using this) h1 h2 ((hr.below ((Below.refl _ _).alloc (Nat.le_refl _) _)).below ((Below.refl _ _).alloc (Nat.le_refl _) _)) (fun h0 b off e => ?_) (by omega)).mono ?_
  · have := hr.lt' h0 e
    omega
  rintro e w2 ⟨Ao, co, q, rfl, hown, hqn, hk2⟩
  rw [slide_length] at hown ⊢
  have s2 := hk2.size
  simp only [World.size_alloc] at hqn s2
  have b2 : Below w.heap.size w w2 := (((Below.refl w.heap.size w).alloc (Nat.le_refl _) _).alloc (by simp) _).trans (hk2.below' (by simp; omega) (by simp))
  have fbox : w2.cell? ⟨w.heap.size, 0, none⟩ = some (.pointer (some ⟨pb, 0, none⟩)) := hk2.cell (by simp) (by simp)
  have P2 := HP.out.below b2
  have c12 : w2.cell? ⟨pb, 1, none⟩ = some (.int .i64 p.hold) := (b2.cell (p := ⟨pb, 1, none⟩) hlt).trans c1
  have HQ := Lib.hid (And.intro hqn (And.intro P2 b2))
  have HPB := Lib.hid hlt
  obtain ⟨sl, hsl⟩ : ∃ sl, sl = slide p.hold false days := ⟨_, rfl⟩
  have hsll : sl.length = days.length := by rw [hsl, slide_length]
  rw [← hsl] at hown
  have HSL := Lib.hid (And.intro hsl hsll)
  obtain ⟨n, hn⟩ : ∃ n, n = days.length := ⟨_, rfl⟩
  have HN := Lib.hid hn
  rw [← hn] at hown hl ⊢
  clear hwin hqn P2 b2 hk2 c1 hsl hsll hn hr hlt
  go_wp2_with fail
  go_loopw [22] (fun i wr => ∃ k : Nat, k ≤ n ∧ i = .int .i64 k ∧ OwnA wr 3 Ao n co (ints (mixN (raisedAt p sl) sl k)) q ∧ Keep q w2 wr)
    (fun i _ => n - (intOf i).toNat)
  case atStart => exact ⟨0, Nat.zero_le _, rfl, by rw [mixN_zero]; exact hown, Keep.refl _ _⟩
  case round =>
    obtain ⟨k, hk, rfl, hownr, hK⟩ := hrel
    by_cases hlt : k < n
    · obtain ⟨g, off, rfl, rfl, hg, hat, hfz⟩ := hownr.some_ (by omega)
      have hgn := HQ.out.1 g (by simp)
      obtain ⟨x, hx⟩ : ∃ x, x = sl.getD k 0 := ⟨_, rfl⟩
      have ck : wr.cell? ⟨g, off + k, none⟩ = some (.int .i64 x) := hat k _ (by
        have h3 := HSL.out.2
        have h4 := HN.out
        have : (mixN (raisedAt p sl) sl k).getD k 0 = sl.getD k 0 := mixN_get _ _ _ (by omega)
        rw [← hx] at this
        have hm := mixN_length (raisedAt p sl) sl k
        simp only [ints, List.getElem?_map]
        rw [List.getD_eq_getElem?_getD] at this
        rw [List.getElem?_eq_getElem (by omega)] at this ⊢
        simpa using this)
      have zk := hfz (off + k)
      have fboxr := hK.cell fbox (by simp; omega)
      have c1r := hK.cell c12 (by have := HPB.out; simp; omega)
      have bB : Below w.heap.size w wr := HQ.out.2.2.trans (hK.below (by have := HQ.out.2.2.size; omega) (fun y hy => by rw [List.mem_singleton.1 hy]; omega))
      have PR := HP.out.below bB
      have HR := Lib.hid (And.intro hownr (And.intro hK PR))
      have HX := Lib.hid hx
      have HH := Lib.hid h1
      clear hownr hK PR hat hfz hx bB fbox c12
      have sev : Calls Tryd.prog 85 #[.agg #[.pointer (some ⟨pb, 0, none⟩)], .int .i64 (if (k : Int) + 1 < p.hold then 0 else x), .func (.func 97) #[] #[]] wr fun e w' => e = .returned (.int .i64 (raisedAt p sl k)) ∧ Below wr.heap.size wr w' := by
        have := upToUp_any pb p (if (k : Int) + 1 < p.hold then 0 else x) wr HR.out.2.2
        rw [HX.out] at this
        rw [HX.out]
        exact this
      have SEV := Lib.hid sev
      clear sev
      by_cases hh : (k : Int) + 1 < p.hold
      · have hs := SEV.out
        rw [if_pos hh] at hs
        have HS := Lib.hid hs
        clear hs
        go_wp2_with (go_at_call 85; refine HS.out.mono ?_; rintro e w3 ⟨rfl, hB3⟩; have ck3 := (hB3.cell (p := ⟨g, off + k, none⟩) hg).trans ck; have zk3 := (hB3.frozen (p := ⟨g, off + k, none⟩) hg).trans zk; have HB3 := Lib.hid hB3; clear hB3)
        go_roundw
        case rel =>
          have hs := HSL.out.2
          have hl := HN.out
          have h5 := ((HR.out.1.keepS (Keep.of_below (S := []) HB3.out) (by simp)).set_ hlt (.int .i64 (raisedAt p sl k)))
          have h6 : (ints (mixN (raisedAt p sl) sl k)).set k (.int .i64 (raisedAt p sl k)) = ints (mixN (raisedAt p sl) sl (k + 1)) := by
            rw [← mixN_set]; simp [ints]
          rw [h6] at h5
          exact ⟨k + 1, by omega, by go_num, h5, (HR.out.2.1.trans (Keep.of_below (S := []) HB3.out) (by simp)).setCell (.inl (by simp)) _⟩
        case measure => simp [intOf]; omega
      · have hs := SEV.out
        rw [if_neg hh] at hs
        have HS := Lib.hid hs
        clear hs
        go_wp2_with (go_at_call 85; refine HS.out.mono ?_; rintro e w3 ⟨rfl, hB3⟩; have ck3 := (hB3.cell (p := ⟨g, off + k, none⟩) hg).trans ck; have zk3 := (hB3.frozen (p := ⟨g, off + k, none⟩) hg).trans zk; have HB3 := Lib.hid hB3; clear hB3)
        go_roundw
        case rel =>
          have hs := HSL.out.2
          have hl := HN.out
          have h5 := ((HR.out.1.keepS (Keep.of_below (S := []) HB3.out) (by simp)).set_ hlt (.int .i64 (raisedAt p sl k)))
          have h6 : (ints (mixN (raisedAt p sl) sl k)).set k (.int .i64 (raisedAt p sl k)) = ints (mixN (raisedAt p sl) sl (k + 1)) := by
            rw [← mixN_set]; simp [ints]
          rw [h6] at h5
          exact ⟨k + 1, by omega, by go_num, h5, (HR.out.2.1.trans (Keep.of_below (S := []) HB3.out) (by simp)).setCell (.inl (by simp)) _⟩
        case measure => simp [intOf]; omega
    · obtain rfl : k = n := by omega
      have hs := HSL.out.2
      have hl := HN.out
      have hq := HQ.out
      go_wp2_with fail
      go_ret
      rw [show mixN (raisedAt p sl) sl k = raisedS p days from by rw [raisedS, ← HSL.out.1, ← hl, ← hs.trans hl.symm, mixN_all]] at hownr
      refine ⟨Ao, co, q, by rw [← hl]; rfl, by rw [← hl]; exact hownr, fun y hy => by have := hq.1 y hy; omega, hq.2.2.trans (hK.below (by have := hq.2.2.size; omega) (fun y hy => by have := hq.1 y hy; omega))⟩

def keptPost (w : World) (p : Pol) (days : List Int) (e : Ending) (w' : World) : Prop :=
  ∃ A c q, e = .returned (.slice A days.length c) ∧ OwnA w' 3 A days.length c (ints (keptS p days)) q ∧ (∀ g ∈ q, w.heap.size ≤ g) ∧ Below w.heap.size w w'

set_option maxHeartbeats 1000000 in
theorem kept_any (pb : Nat) (p : Pol) (A : Option Addr) (c : Nat) (days : List Int) (w : World) (hp : PolAt w pb p) (hh : 1 ≤ p.calm ∧ p.calm ≤ 1000) (hr : Rd w 1 A days.length (ints days)) (hl : days.length ≤ 100000) :
    Calls Tryd.prog 61 #[.agg #[.pointer (some ⟨pb, 0, none⟩)], .slice A days.length c] w (keptPost w p days) := by
  have hp0 := hp
  obtain ⟨As, cs, hpb, hnc, hcm, hrs⟩ := hp
  have hlt := heap_lt hpb
  have c1 := cell_of_heap hpb 2
  simp at c1
  obtain ⟨h1, h2⟩ := hh
  have HP := Lib.hid hp0
  clear hpb hnc hcm hrs hp0
  go_enter Tryd.func61, Tryd.ntmps61
  go_wp2_with fail
  -- each(days, push)
  have hwin : ∀ wx : World, Win (wx.alloc (.cells #[.int .i64 p.calm, .int .i64 0, .bool true, .slice none 0 0, .slice none 0 0] 156)) wx.heap.size p.calm 0 true [] [wx.heap.size] := fun wx => win_new wx _ _
  refine (each_any (w.heap.size + 1) p.calm true A c days _ (by have := hwin (w.alloc (.cells #[.pointer (some ⟨pb, 0, none⟩)] 101)); simpa using this) h1 h2 ((hr.below ((Below.refl _ _).alloc (Nat.le_refl _) _)).below ((Below.refl _ _).alloc (Nat.le_refl _) _)) (fun h0 b off e => ?_) (by omega)).mono ?_
  · have := hr.lt' h0 e
    omega
  rintro e w2 ⟨Ao, co, q, rfl, hown, hqn, hk2⟩
  rw [slide_length] at hown ⊢
  have s2 := hk2.size
  simp only [World.size_alloc] at hqn s2
  have b2 : Below w.heap.size w w2 := (((Below.refl w.heap.size w).alloc (Nat.le_refl _) _).alloc (by simp) _).trans (hk2.below' (by simp; omega) (by simp))
  have fbox : w2.cell? ⟨w.heap.size, 0, none⟩ = some (.pointer (some ⟨pb, 0, none⟩)) := hk2.cell (by simp) (by simp)
  have P2 := HP.out.below b2
  have c12 : w2.cell? ⟨pb, 2, none⟩ = some (.int .i64 p.calm) := (b2.cell (p := ⟨pb, 2, none⟩) hlt).trans c1
  have HQ := Lib.hid (And.intro hqn (And.intro P2 b2))
  have HPB := Lib.hid hlt
  obtain ⟨sl, hsl⟩ : ∃ sl, sl = slide p.calm true days := ⟨_, rfl⟩
  have hsll : sl.length = days.length := by rw [hsl, slide_length]
  rw [← hsl] at hown
  have HSL := Lib.hid (And.intro hsl hsll)
  obtain ⟨n, hn⟩ : ∃ n, n = days.length := ⟨_, rfl⟩
  have HN := Lib.hid hn
  rw [← hn] at hown hl ⊢
  clear hwin hqn P2 b2 hk2 c1 hsl hsll hn hr hlt
  go_wp2_with fail
  go_loopw [22] (fun i wr => ∃ k : Nat, k ≤ n ∧ i = .int .i64 k ∧ OwnA wr 3 Ao n co (ints (mixN (keptAt p sl) sl k)) q ∧ Keep q w2 wr)
    (fun i _ => n - (intOf i).toNat)
  case atStart => exact ⟨0, Nat.zero_le _, rfl, by rw [mixN_zero]; exact hown, Keep.refl _ _⟩
  case round =>
    obtain ⟨k, hk, rfl, hownr, hK⟩ := hrel
    by_cases hlt : k < n
    · obtain ⟨g, off, rfl, rfl, hg, hat, hfz⟩ := hownr.some_ (by omega)
      have hgn := HQ.out.1 g (by simp)
      obtain ⟨x, hx⟩ : ∃ x, x = sl.getD k 0 := ⟨_, rfl⟩
      have ck : wr.cell? ⟨g, off + k, none⟩ = some (.int .i64 x) := hat k _ (by
        have h3 := HSL.out.2
        have h4 := HN.out
        have : (mixN (keptAt p sl) sl k).getD k 0 = sl.getD k 0 := mixN_get _ _ _ (by omega)
        rw [← hx] at this
        have hm := mixN_length (keptAt p sl) sl k
        simp only [ints, List.getElem?_map]
        rw [List.getD_eq_getElem?_getD] at this
        rw [List.getElem?_eq_getElem (by omega)] at this ⊢
        simpa using this)
      have zk := hfz (off + k)
      have fboxr := hK.cell fbox (by simp; omega)
      have c1r := hK.cell c12 (by have := HPB.out; simp; omega)
      have bB : Below w.heap.size w wr := HQ.out.2.2.trans (hK.below (by have := HQ.out.2.2.size; omega) (fun y hy => by rw [List.mem_singleton.1 hy]; omega))
      have PR := HP.out.below bB
      have HR := Lib.hid (And.intro hownr (And.intro hK PR))
      have HX := Lib.hid hx
      have HH := Lib.hid h1
      clear hownr hK PR hat hfz hx bB fbox c12
      have sev : Calls Tryd.prog 85 #[.agg #[.pointer (some ⟨pb, 0, none⟩)], .int .i64 x, .func (.func 86) #[] #[]] wr fun e w' => e = .returned (.int .i64 (keptAt p sl k)) ∧ Below wr.heap.size wr w' := by
        have := upToDn_any pb p x wr HR.out.2.2
        rw [HX.out] at this
        rw [HX.out]
        exact this
      have HS := Lib.hid sev
      clear sev
      go_wp2_with (go_at_call 85; refine HS.out.mono ?_; rintro e w3 ⟨rfl, hB3⟩; have ck3 := (hB3.cell (p := ⟨g, off + k, none⟩) hg).trans ck; have zk3 := (hB3.frozen (p := ⟨g, off + k, none⟩) hg).trans zk; have HB3 := Lib.hid hB3; clear hB3)
      go_roundw
      case rel =>
        have hs := HSL.out.2
        have hl := HN.out
        have h5 := ((HR.out.1.keepS (Keep.of_below (S := []) HB3.out) (by simp)).set_ hlt (.int .i64 (keptAt p sl k)))
        have h6 : (ints (mixN (keptAt p sl) sl k)).set k (.int .i64 (keptAt p sl k)) = ints (mixN (keptAt p sl) sl (k + 1)) := by
          rw [← mixN_set]; simp [ints]
        rw [h6] at h5
        exact ⟨k + 1, by omega, by go_num, h5, (HR.out.2.1.trans (Keep.of_below (S := []) HB3.out) (by simp)).setCell (.inl (by simp)) _⟩
      case measure => simp [intOf]; omega
    · obtain rfl : k = n := by omega
      have hs := HSL.out.2
      have hl := HN.out
      have hq := HQ.out
      go_wp2_with fail
      go_ret
      rw [show mixN (keptAt p sl) sl k = keptS p days from by rw [keptS, ← HSL.out.1, ← hl, ← hs.trans hl.symm, mixN_all]] at hownr
      refine ⟨Ao, co, q, by rw [← hl]; rfl, by rw [← hl]; exact hownr, fun y hy => by have := hq.1 y hy; omega, hq.2.2.trans (hK.below (by have := hq.2.2.size; omega) (fun y hy => by have := hq.1 y hy; omega))⟩
end Go.Proofs.YtalcinepeofmcaaDoor
/- rules.decided -/
namespace Go.Proofs.YtalcinepeofmcaaDoor
open Go Go.RowKit Sp

def decidedPost (w : World) (p : Pol) (days : List Int) (e : Ending) (w' : World) : Prop :=
  ∃ A c q, e = .returned (.slice A days.length c) ∧ OwnA w' 3 A days.length c (ints (decidedS p days)) q ∧ (∀ g ∈ q, w.heap.size ≤ g) ∧ Below w.heap.size w w'

set_option maxHeartbeats 1000000 in
theorem decided_any (pb : Nat) (p : Pol) (A : Option Addr) (c : Nat) (days : List Int) (w : World) (hp : PolAt w pb p) (hh : 1 ≤ p.hold ∧ p.hold ≤ 1000) (hca : 1 ≤ p.calm ∧ p.calm ≤ 1000) (hr : Rd w 1 A days.length (ints days)) (hl : days.length ≤ 100000) :
    Calls Tryd.prog 57 #[.agg #[.pointer (some ⟨pb, 0, none⟩)], .slice A days.length c] w (decidedPost w p days) := by
  obtain ⟨i0, hi, hz0, hz1, hz2⟩ := info_parts info_int
  have HP := Lib.hid (And.intro hp (And.intro hh (And.intro hca hr)))
  clear hp hh hca hr
  go_enter Tryd.func57, Tryd.ntmps57
  go_upto_region 1 with fail
  obtain ⟨W, hW⟩ : ∃ W, W = w.alloc (.cells #[.pointer (some ⟨pb, 0, none⟩)] 101) := ⟨_, rfl⟩
  obtain ⟨bx, hbx⟩ : ∃ bx, bx = w.heap.size := ⟨_, rfl⟩
  have bW : Below w.heap.size w W := by rw [hW]; exact (Below.refl _ _).alloc (Nat.le_refl _) _
  have fb : W.cell? ⟨bx, 0, none⟩ = some (.pointer (some ⟨pb, 0, none⟩)) := by rw [hW, hbx]; simp [World.cell?_alloc_new]
  have PW : PolAt W.drew pb p := HP.out.1.below bW.drew
  have RW : Rd W.drew 1 A days.length (ints days) := HP.out.2.2.2.below bW.drew
  have sW : bx < W.heap.size := by rw [hW, hbx]; simp
  rw [← hW, ← hbx]
  have HB := Lib.hid (And.intro hbx (And.intro bW (And.intro PW RW)))
  clear hW hbx bW PW RW
  go_region_held3 (fun w' => w'.cell? ⟨bx, 0, none⟩ = some (.pointer (some ⟨pb, 0, none⟩))) (first | assumption | simp [*])
    (first
      | (go_at_call 80
         have hc := raised_any pb p A c days W.drew HB.out.2.2.1 HP.out.2.1 HB.out.2.2.2 hl
         refine hc.mono ?_
         rintro e w1 ⟨A1, c1, q1, rfl, o1, n1, b1⟩
         have fb1 : w1.cell? ⟨bx, 0, none⟩ = some (.pointer (some ⟨pb, 0, none⟩)) := (b1.cell (p := ⟨bx, 0, none⟩) sW).trans fb
         have H1 := Lib.hid (And.intro o1 (And.intro n1 b1))
         clear o1 n1 b1 hc)
      | (go_at_call 61
         have hc := kept_any pb p A c days w1 (HB.out.2.2.1.below H1.out.2.2) HP.out.2.2.1 (HB.out.2.2.2.below H1.out.2.2) hl
         refine hc.mono ?_
         rintro e w2 ⟨A2, c2, q2, rfl, o2, n2, b2⟩
         have fb2 : w2.cell? ⟨bx, 0, none⟩ = some (.pointer (some ⟨pb, 0, none⟩)) := (b2.cell (p := ⟨bx, 0, none⟩) (Nat.lt_of_lt_of_le sW H1.out.2.2.size)).trans fb1
         have H2 := Lib.hid (And.intro o2 (And.intro n2 b2))
         clear o2 n2 b2 hc))
  obtain ⟨u, hu⟩ : ∃ u, u = raisedS p days := ⟨_, rfl⟩
  obtain ⟨v, hv⟩ : ∃ v, v = keptS p days := ⟨_, rfl⟩
  have hul : u.length = days.length := by rw [hu, raisedS_length]
  have hvl : v.length = days.length := by rw [hv, keptS_length]
  have R1 : Rd w2 1 A1 days.length (ints u) := by have := H1.out.1.rd.below H2.out.2.2; rwa [← hu] at this
  have R2 : Rd w2 1 A2 days.length (ints v) := by have := H2.out.1.rd; rwa [← hv] at this
  have b2 : Below w.heap.size w w2 := (HB.out.2.1.drew.trans (H1.out.2.2.mono HB.out.2.1.size)).trans (H2.out.2.2.mono (by have := HB.out.2.1.size; have := H1.out.2.2.size; simp at this; omega))
  have HU := Lib.hid (And.intro hu (And.intro hv (And.intro hul (And.intro hvl b2))))
  clear hu hv hul hvl b2 fb2 fb1 fb sW
  go_wp2_with fail
  go_loopw [7, 8, 18] (fun bf o i wr => ∃ (k : Nat) (Ao : Option Addr) (co : Nat) (q : List Nat), k ≤ days.length ∧ i = .int .i64 k ∧ bf = .int .i64 (decN u v k) ∧ o = .slice Ao k co ∧ OwnA wr 3 Ao k co (ints (decL u v k)) q ∧ (∀ g ∈ q, w2.heap.size ≤ g) ∧ Keep [] w2 wr)
    (fun _ _ i _ => days.length - (intOf i).toNat)
  case atStart => exact ⟨0, none, 0, [], Nat.zero_le _, rfl, rfl, rfl, OwnA.nil _ _, by simp, Keep.refl _ _⟩
  case round =>
    obtain ⟨k, Ao, co, q, hk, rfl, rfl, rfl, hown, hq, hK⟩ := hrel
    by_cases hlt : k < days.length
    · obtain ⟨b1, o1, rfl, hb1, hc1⟩ := R1.2 (by omega)
      obtain ⟨b2, o2, rfl, hb2, hc2⟩ := R2.2 (by omega)
      have c1 := hK.cell (hc1 k (.int .i64 (u.getD k 0)) (ints_get (by rw [HU.out.2.2.1]; exact hlt))) (by simp)
      have c2 := hK.cell (hc2 k (.int .i64 (v.getD k 0)) (ints_get (by rw [HU.out.2.2.2.1]; exact hlt))) (by simp)
      generalize hx : u.getD k 0 = x at c1
      generalize hy : v.getD k 0 = y at c2
      generalize hz : decN u v k = z
      have HX := Lib.hid (And.intro hx (And.intro hy hz))
      have HO := Lib.hid (And.intro hown (And.intro hq hK))
      clear hx hy hz hown hq hK hc1 hc2
      go_upto_region 7 with fail
      go_quiet (fail)
      go_upto_region 8 with fail
      generalize hm : (if x < if z < y then z else y then if z < y then z else y else x) = m
      have hm' : m = max x (min y z) := by rw [← hm]; simp only [Int.max_def, Int.min_def]; split <;> split <;> split <;> (try split) <;> omega
      have HM := Lib.hid hm'
      clear hm hm'
      go_wp2_with (at_builtin
                   refine wpList_append_A rfl (.tmp 32) (.tmp 34) 40 rfl i0 _ 8 Tryd.underlying40 hi hz0 hz1 hz2 rfl (A := Ao) (n := k) (c := co) (xs := ints (decL u v k)) (fp := q) (by simp [Act.eval]) _ (by simp [Act.eval]) (.int .i64 m) (((HO.out.1.drewN _).alloc _)) (cell_new_one _ _ _) rfl (by omega) (by omega) ?_
                   intro g off' c' w3 h1 h2 h3 h4
                   have HQ := Lib.hid (And.intro h1 (And.intro h2 h4))
                   clear h1 h2 h3 h4)
      go_roundw
      case rel =>
        obtain ⟨h1, h2, h4⟩ := HQ.out
        obtain ⟨hown, hq, hK⟩ := HO.out
        obtain ⟨hx, hy, hz⟩ := HX.out
        have hd : decN u v (k + 1) = m := by rw [HM.out, ← hx, ← hy, ← hz]; rfl
        have hkz := hK.size
        refine ⟨k + 1, some ⟨g, off', none⟩, c', [g], by omega, by go_num, by rw [hd], rfl, by rw [decL_succ, hd]; simpa [ints] using h1, ?_, ((hK.drewN _).alloc _).trans h4 (fun y hy => .inr (hq y hy))⟩
        intro y hy
        rw [List.mem_singleton.1 hy]
        rcases h2 with h2 | h2
        · exact hq _ h2
        · simp at h2; omega
      case measure => simp [intOf]; omega
    · obtain rfl : k = days.length := by omega
      go_wp2_with fail
      go_ret
      obtain ⟨hu, hv, hul, hvl, b2⟩ := HU.out
      have hbw := b2.size
      refine ⟨Ao, co, q, rfl, ?_, fun y hy => by have := hq y hy; omega, b2.trans (hK.below (by omega) (by simp))⟩
      rw [decidedS, ← hu, ← hv]
      exact hown
end Go.Proofs.YtalcinepeofmcaaDoor
/- append of a whole slice onto a slice of the call's own (one-cell elements), in place or not. No program is named here. -/
namespace Go.Proofs.YtalcinepeofmcaaDoor
open Go Go.RowKit

section
variable {w : World} {e : TypeId} {A B : Option Addr} {n c m d : Nat} {xs ys : List Value} {fp : List Nat} {P : Program}

theorem setCells_heap (g : Nat) {t : TypeId} : ∀ (ys : List Value) (o : Nat) (w : World) (cur : Array Value), w.heap[g]? = some (.cells cur t (0, 0)) →
    ∃ cur', (w.setCells g o ys).heap[g]? = some (.cells cur' t (0, 0)) ∧ cur'.size = cur.size ∧ (∀ j u, ys[j]? = some u → o + j < cur.size → cur'[o + j]? = some u) ∧ (∀ i, i < o → cur'[i]? = cur[i]?)
  | [], o, w, cur, h => ⟨cur, h, rfl, by simp, fun _ _ => rfl⟩
  | y :: ys, o, w, cur, h => by
    obtain ⟨cur', h1, h2, h3, h4⟩ := setCells_heap g ys (o + 1) (w.setCell ⟨g, o, none⟩ y) (cur.setIfInBounds o y) (heap_set h o y)
    refine ⟨cur', h1, by simpa using h2, fun j u hu hlt => ?_, fun i hi => ?_⟩
    · cases j with
      | zero =>
        simp only [List.getElem?_cons_zero, Option.some.injEq] at hu
        subst hu
        rw [Nat.add_zero, h4 o (by omega)]
        simp at hlt
        simp [hlt]
      | succ j =>
        have := h3 j u (by simpa using hu) (by simp; omega)
        rwa [show o + 1 + j = o + (j + 1) from by omega] at this
    · rw [h4 i (by omega), Array.getElem?_setIfInBounds_ne (by omega)]

theorem setCells_keep {S : List Nat} (g : Nat) : ∀ (ys : List Value) (o : Nat) (w0 w : World), Keep S w0 w → (g ∈ S ∨ w0.heap.size ≤ g) → Keep S w0 (w.setCells g o ys)
  | [], _, _, _, h, _ => h
  | y :: ys, o, w0, _, h, hg => setCells_keep g ys (o + 1) w0 _ (h.setCell (p := ⟨g, o, none⟩) hg y) hg

theorem Rd.add_ {A : Option Addr} {n : Nat} {xs : List Value} (h : Rd w 1 A n xs) {ad : Addr} (he : A = some ad) : ∀ j u, xs[j]? = some u → w.cell? (ad.add j) = some u := by
  intro j u hu
  have hl : 0 < n := by
    have := (List.getElem?_eq_some_iff.1 hu).1
    have := h.1
    omega
  obtain ⟨b, off, e1, _, hc⟩ := h.2 hl
  rw [he] at e1
  injection e1 with e1
  subst e1
  have := hc j u hu
  by_cases hj : j = 0
  · subst hj; simpa [Addr.add] using this
  · simpa [Addr.add, hj] using this

theorem run_append_As (t ty : TypeId) (i : TypeInfo) (z : Value) (bytes : Nat) (ht : P.underlying t = some (.slice e)) (hi : P.info? e = some i) (hz : i.zero = some z)
    (hsize : i.size = 1) (hby : i.bytes = bytes) (hzs : z.cells.size = 1) (hown : OwnA w e A n c xs fp) (hr : Rd w 1 B m ys) (h1 : ∀ u ∈ ys, u.oneCell' = true)
    (hn : n + m ≤ 1000000000000) (hbytes : bytes ≤ 100) :
    ∃ A' c' w' fp', (Builtin.append_ #[t, t] ty #[.slice A n c, .slice B m d]).run P w = .ok (.slice A' (n + m) c') w' ∧
      OwnA w' e A' (n + m) c' (xs ++ ys) fp' ∧ (∀ g ∈ fp', g ∈ fp ∨ w.heap.size = g) ∧ Keep fp w w' := by
  subst hby
  have hym : ys.length = m := by have := hr.1; omega
  rcases Nat.eq_zero_or_pos m with hm | hm
  · -- nothing is appended
    subst hm
    obtain rfl : ys = [] := List.eq_nil_of_length_eq_zero hym
    refine ⟨A, c, w, fp, ?_, by simpa using hown, fun g hg => .inl hg, Keep.refl _ _⟩
    have hge := hown.ge
    have hfc : (Builtin.firstCells i.size 0 (.slice B 0 d)).run P w = .ok #[] w := by
      cases B with
      | none => simp [Builtin.firstCells]
      | some b => simp [Builtin.firstCells, loadCells, loadCellsFrom]
    cases A with
    | none => simp [Builtin.append_, run_underlying ht, sizeOf, typeInfo, hi, Builtin.lenOf, hge, hfc]
    | some a => simp [Builtin.append_, run_underlying ht, sizeOf, typeInfo, hi, Builtin.lenOf, hge, hfc, storeCells]
  · obtain ⟨b, off, rfl, hb, hc⟩ := hr.2 hm
    have hb1 : (n + m) * i.bytes ≤ 140737488355328 := Nat.le_trans (Nat.mul_le_mul hn hbytes) (by decide)
    have hnews := hr.add_ rfl
    have hl : ys.length = m * i.size := by rw [hsize, hym, Nat.mul_one]
    have hmx : n + m ≤ maxLen := by simp only [maxLen]; omega
    have grown : ∀ (old : Nat) (olds : List Value), olds = xs →
        OwnA (w.drew.alloc (.cells (olds.toArray ++ ys.toArray ++ Builtin.zeroCells z.cells (grownCap w (n + m) old e - (n + m))) e)) e (some ⟨w.heap.size, 0, none⟩) (n + m) (grownCap w (n + m) old e) (xs ++ ys) [w.heap.size] := by
      rintro old olds rfl
      have hge := grownCap_ge w (n + m) old e
      have hcm : grownCap w (n + m) old e ≤ maxLen := grownCap_le_maxLen w (n + m) old e hmx
      simp only [maxLen] at hcm
      refine ⟨by simp [hown.1, hym], .inr ⟨_, 0, _, rfl, rfl, heap_alloc_new w.drew _, hge, hcm, ?_, ?_⟩⟩
      · simp only [Array.size_append, List.size_toArray, size_zeroCells, hzs, hown.1, hym]
        omega
      · intro j v hv
        have hlt : j < (olds ++ ys).length := (List.getElem?_eq_some_iff.1 hv).1
        rw [Nat.zero_add, Array.getElem?_append_left (by simpa using hlt)]
        simpa using hv
    have hkeep : ∀ o : Obj, Keep fp w (w.drew.alloc o) := fun o => ((Keep.refl fp w).drew).alloc o
    rcases hown.2 with ⟨rfl, rfl, rfl, rfl⟩ | ⟨g, og, cur, rfl, rfl, hh, hnc, hcm, hcs, hat⟩
    · have hx : xs = [] := List.eq_nil_of_length_eq_zero hown.1
      subst hx
      have hrn := run_append_nil (P := P) w t ty e i z ht hi hz ⟨b, off, none⟩ m d ys hl hnews hm (by omega) (by simp at hb1; omega)
      have hg := grown 0 [] rfl
      simp only [Nat.zero_add, List.nil_append, Array.empty_append] at hg ⊢
      exact ⟨_, _, _, _, hrn, hg, fun y hy => .inr (List.mem_singleton.1 hy).symm, hkeep _⟩
    · by_cases hroom : n + m ≤ c
      · have hrn := run_append_room_cells (P := P) w t ty e i ht hi g og n c ⟨b, off, none⟩ m d ys hl hnews h1 hroom (by
          intro j hj
          rw [hym] at hj
          have hlt : og + n * i.size + j < cur.size := by rw [hsize]; omega
          rw [cell_of_heap hh, Array.getElem?_eq_getElem hlt]
          rfl) (fun j hj => frozen_of_heap hh _)
        rw [hsize, Nat.mul_one] at hrn
        obtain ⟨cur', g1, g2, g3, g4⟩ := setCells_heap g ys (og + n) w cur hh
        refine ⟨some ⟨g, og, none⟩, c, _, [g], hrn, ⟨by simp [hown.1, hym], .inr ⟨g, og, cur', rfl, rfl, g1, hroom, hcm, by rw [g2]; exact hcs, ?_⟩⟩, fun y hy => .inl hy, setCells_keep g ys _ w w (Keep.refl _ _) (.inl (by simp))⟩
        intro j v hv
        rw [List.getElem?_append] at hv
        split at hv
        · rename_i hj
          rw [g4 (og + j) (by have := hown.1; omega)]
          exact hat j v hv
        · rename_i hj
          have h5 := hown.1
          have h6 := (List.getElem?_eq_some_iff.1 hv).1
          have := g3 (j - xs.length) v hv (by omega)
          rwa [show og + n + (j - xs.length) = og + j from by omega] at this
      · have holds : ∀ j v, xs[j]? = some v → w.cell? ((⟨g, og, none⟩ : Addr).add j) = some v := by
          intro j v hv
          rw [show (⟨g, og, none⟩ : Addr).add j = ⟨g, og + j, none⟩ from by simp [Addr.add]]
          exact (cell_of_heap hh _).trans (hat j v hv)
        have hrn := run_append_grow (P := P) w t ty e i z ht hi hz ⟨g, og, none⟩ n c xs (by simp [hown.1, hsize]) holds ⟨b, off, none⟩ m d ys hl hnews (by omega) (by omega) (growslice_fits (by omega) hb1)
        exact ⟨_, _, _, _, hrn, grown c xs rfl, fun y hy => .inr (List.mem_singleton.1 hy).symm, hkeep _⟩

theorem wp_append_As {o : Oper} {a : Act} {K : Act → World → Prop} {Q : Exit → Act → World → Prop} (s x : Operand) (t : TypeId)
    (ho : o.op = .call { callee := .builtin .append, args := #[s, x], argTypes := #[t, t] })
    (i : TypeInfo) (z : Value) (bytes : Nat) (ht : P.underlying t = some (.slice e)) (hi : P.info? e = some i) (hz : i.zero = some z)
    (hsize : i.size = 1) (hby : i.bytes = bytes) (hzs : z.cells.size = 1) (hs : a.eval s = .slice A n c) (hx : a.eval x = .slice B m d)
    (hown : OwnA w e A n c xs fp) (hr : Rd w 1 B m ys) (h1 : ∀ u ∈ ys, u.oneCell' = true)
    (hn : n + m ≤ 1000000000000) (hbytes : bytes ≤ 100)
    (h : ∀ A' c' w' fp', OwnA w' e A' (n + m) c' (xs ++ ys) fp' → (∀ g ∈ fp', g ∈ fp ∨ w.heap.size = g) → Keep fp w w' → K (a.put o.dst (.slice A' (n + m) c')) w') : o.wp P a w K Q := by
  obtain ⟨A', c', w', fp', hrn, h2, h3, h4⟩ := run_append_As (P := P) (d := d) t o.type i z bytes ht hi hz hsize hby hzs hown hr h1 hn hbytes
  unfold Oper.wp execOp
  simp only [ho, resolve, invoke, builtin, Sem.run_bind, Sem.run_pure, Result.andThen_ok, List.map_toArray, List.map_cons, List.map_nil, hs, hx, hrn]
  exact h A' c' w' fp' h2 h3 h4

theorem wpList_append_As {ops : Array Oper} {rest : List Oper} {o : Oper} {a : Act} {Q : Exit → Act → World → Prop} (hgd : o.guard = none) (s x : Operand) (t : TypeId)
    (ho : o.op = .call { callee := .builtin .append, args := #[s, x], argTypes := #[t, t] })
    (i : TypeInfo) (z : Value) (bytes : Nat) (ht : P.underlying t = some (.slice e)) (hi : P.info? e = some i) (hz : i.zero = some z)
    (hsize : i.size = 1) (hby : i.bytes = bytes) (hzs : z.cells.size = 1) (hs : a.eval s = .slice A n c) (hx : a.eval x = .slice B m d)
    (hown : OwnA w e A n c xs fp) (hr : Rd w 1 B m ys) (h1 : ∀ u ∈ ys, u.oneCell' = true)
    (hn : n + m ≤ 1000000000000) (hbytes : bytes ≤ 100)
    (h : ∀ A' c' w' fp', OwnA w' e A' (n + m) c' (xs ++ ys) fp' → (∀ g ∈ fp', g ∈ fp ∨ w.heap.size = g) → Keep fp w w' → wpList P ops Q rest (a.put o.dst (.slice A' (n + m) c')) w') : wpList P ops Q (o :: rest) a w :=
  wpList_plain hgd fun _ hK => wp_append_As s x t ho i z bytes ht hi hz hsize hby hzs hs hx hown hr h1 hn hbytes fun A' c' w' fp' h2 h3 h4 => hK _ _ (h A' c' w' fp' h2 h3 h4)

theorem step_append_As {ops : Array Oper} {o : Oper} {a : Act} {K : Act → World → Prop} {Q : Exit → Act → World → Prop} {E : Prop} (hgd : o.guard = none) (s x : Operand) (t : TypeId)
    (ho : o.op = .call { callee := .builtin .append, args := #[s, x], argTypes := #[t, t] })
    (i : TypeInfo) (z : Value) (bytes : Nat) (ht : P.underlying t = some (.slice e)) (hi : P.info? e = some i) (hz : i.zero = some z)
    (hsize : i.size = 1) (hby : i.bytes = bytes) (hzs : z.cells.size = 1) (hs : a.eval s = .slice A n c) (hx : a.eval x = .slice B m d)
    (hown : OwnA w e A n c xs fp) (hr : Rd w 1 B m ys) (h1 : ∀ u ∈ ys, u.oneCell' = true)
    (hn : n + m ≤ 1000000000000) (hbytes : bytes ≤ 100)
    (h : ∀ A' c' w' fp', OwnA w' e A' (n + m) c' (xs ++ ys) fp' → (∀ g ∈ fp', g ∈ fp ∨ w.heap.size = g) → Keep fp w w' → K (a.put o.dst (.slice A' (n + m) c')) w') :
    if Region.wanted o (yielded ops a.tmps) = true then Oper.wp P o a w K Q else E := by
  have hw : Region.wanted o (yielded ops a.tmps) = true := by simp [Region.wanted, hgd]
  rw [if_pos hw]
  exact wp_append_As s x t ho i z bytes ht hi hz hsize hby hzs hs hx hown hr h1 hn hbytes h

/-- a block of n noughts -/
def noughts (n : Nat) : Array Value := (List.replicate n (Value.int .i64 0)).toArray

theorem run_make_ints (t : TypeId) (i : TypeInfo) (ht : P.underlying t = some (.slice e)) (hi : P.info? e = some i) (hz : i.zero = some (.int .i64 0)) (hsize : i.size = 1) (hby : i.bytes = 8) (n : Nat) (hn : n ≤ 1000000) (w : World) :
    (Instr.makeSlice t (.int .i64 (n : Int)) (.int .i64 (n : Int))).run P w = .ok (.slice (some ⟨w.heap.size, 0, none⟩) n n) (w.alloc (.cells (noughts n) e)) := by
  have hr := run_make (P := P) w t e i (.int .i64 0) ht hi hz .i64 .i64 n n (by omega) (Int.le_refl _) (by rw [hby]; omega) (by omega)
  simp only [Int.toNat_natCast, hsize, Nat.mul_one] at hr
  rw [hr]
  congr 3
  apply Array.ext'
  rw [show (Value.int IntKind.i64 0).cells = #[Value.int .i64 0] from rfl, toList_madeCells_one]
  simp [noughts]

theorem OwnA.made (w : World) (e : TypeId) (n : Nat) (hn : n ≤ 1000000) : OwnA (w.alloc (.cells (noughts n) e)) e (some ⟨w.heap.size, 0, none⟩) n n (List.replicate n (.int .i64 0)) [w.heap.size] :=
  ⟨by simp, .inr ⟨w.heap.size, 0, noughts n, rfl, rfl, heap_alloc_new w _, Nat.le_refl _, by omega, by simp [noughts], fun j u hu => by rw [Nat.zero_add, noughts, List.getElem?_toArray]; exact hu⟩⟩
end
end Go.Proofs.YtalcinepeofmcaaDoor
/- rules.force -/
namespace Go.Proofs.YtalcinepeofmcaaDoor
open Go Go.RowKit Sp

/-- a slice of numbers that is only read -/
def IntsAt (w : World) (A : Option Addr) (c : Nat) (l : List Int) : Prop := Rd w 1 A l.length (ints l) ∧ l.length ≤ c ∧ c ≤ 9223372036854775807

def forcePost (w : World) (p : Pol) (days : List Int) (e : Ending) (w' : World) : Prop :=
  ∃ A c, e = .returned (.slice A days.length c) ∧ IntsAt w' A c (forceS p days) ∧ Below w.heap.size w w'

/-- the same, and that the result is new -/
def forceNew (w : World) (p : Pol) (days : List Int) (e : Ending) (w' : World) : Prop :=
  ∃ A c, e = .returned (.slice A days.length c) ∧ IntsAt w' A c (forceS p days) ∧ Below w.heap.size w w' ∧ (0 < days.length → ∃ g off cur, A = some ⟨g, off, none⟩ ∧ w.heap.size ≤ g ∧ w'.heap[g]? = some (.cells cur 3 (0, 0)))

theorem ints_one (l : List Int) : ∀ u ∈ ints l, u.oneCell' = true := by simp [ints, Value.oneCell']
theorem ints_length (l : List Int) : (ints l).length = l.length := by simp [ints]
theorem ints_append (l m : List Int) : ints l ++ ints m = ints (l ++ m) := by simp [ints]

theorem rd_drop {w : World} {A : Option Addr} {N m : Nat} {xs : List Value} (h : Rd w 1 A (N + m) xs) : Rd w 1 (A.map fun x => x.add N) m (xs.drop N) := by
  refine ⟨by rw [List.length_drop, h.1]; omega, fun h0 => ?_⟩
  obtain ⟨b, off, rfl, hb, hc⟩ := h.2 (by omega)
  refine ⟨b, off + N, by by_cases hN : N = 0 <;> simp [Addr.add, hN], hb, fun j u hu => ?_⟩
  rw [List.getElem?_drop] at hu
  have := hc _ _ hu
  rwa [show off + (N + j) = off + N + j from by omega] at this

theorem force_end {w w3 : World} {p : Pol} {days : List Int} {A3 : Option Addr} {N c3 : Nat} {q : List Nat} {B : Option Addr} {d : Nat}
    (ho : OwnA w3 3 A3 (N + days.length) c3 (ints (slide ((N : Int) + 1) false (List.replicate N 0 ++ decidedS p days))) q) (hN : p.notice = (N : Int)) (hB : Below w.heap.size w w3) (hl : days.length ≤ 100000) (hq : ∀ g ∈ q, w.heap.size ≤ g)
    (hv : (c3 = N ∧ B = A3 ∧ d = 0) ∨ (B = A3.map (fun x => x.add N) ∧ d = c3 - N)) : forceNew w p days (.returned (.slice B days.length d)) w3 := by
  have hge := ho.ge
  have hf : forceS p days = (slide ((N : Int) + 1) false (List.replicate N 0 ++ decidedS p days)).drop N := by rw [forceS, hN]; simp
  have hfl := forceS_length p days
  have hrd := rd_drop ho.rd
  have hcm : c3 ≤ 9223372036854775807 := by
    rcases ho.2 with ⟨_, _, rfl, _⟩ | ⟨g, off, cur, _, _, _, _, h, _⟩
    · omega
    · exact h
  have hints : (ints (slide ((N : Int) + 1) false (List.replicate N 0 ++ decidedS p days))).drop N = ints (forceS p days) := by rw [hf]; simp [ints]
  rw [hints] at hrd
  rcases hv with ⟨rfl, rfl, rfl⟩ | ⟨rfl, rfl⟩
  · have h0 : days.length = 0 := by omega
    refine ⟨B, 0, rfl, ⟨?_, by omega, by omega⟩, hB, fun h => absurd h (by omega)⟩
    rw [hfl, h0]
    have : ints (forceS p days) = [] := List.eq_nil_of_length_eq_zero (by rw [ints_length, hfl, h0])
    rw [this]
    exact Rd.nil _ _ _
  · refine ⟨_, _, rfl, ⟨by rw [hfl]; exact hrd, by omega, by omega⟩, hB, fun h0 => ?_⟩
    rcases ho.2 with ⟨_, h1, _⟩ | ⟨g, off, cur, rfl, rfl, hh, _⟩
    · omega
    · refine ⟨g, off + N, cur, ?_, hq g (by simp), hh⟩
      by_cases hN0 : N = 0 <;> simp [Addr.add, hN0]

set_option maxRecDepth 100000 in
set_option maxHeartbeats 2000000 in
theorem force_new (pb : Nat) (p : Pol) (A : Option Addr) (c : Nat) (days : List Int) (w : World) (hp : PolAt w pb p) (hh : 1 ≤ p.hold ∧ p.hold ≤ 1000) (hca : 1 ≤ p.calm ∧ p.calm ≤ 1000) (hno : 0 ≤ p.notice ∧ p.notice ≤ 900) (hr : Rd w 1 A days.length (ints days)) (hl : days.length ≤ 100000) :
    Calls Tryd.prog 58 #[.agg #[.pointer (some ⟨pb, 0, none⟩)], .slice A days.length c] w (forceNew w p days) := by
  obtain ⟨i0, hi, hz0, hz1, hz2⟩ := info_parts info_int
  obtain ⟨N, hN⟩ : ∃ N : Nat, p.notice = (N : Int) := ⟨p.notice.toNat, by omega⟩
  have hN9 : N ≤ 900 := by omega
  have hmk := fun w => run_make_ints (P := Tryd.prog) 40 i0 Tryd.underlying40 hi hz0 hz1 hz2 N (by omega) w
  have hp0 := hp
  obtain ⟨As, cs, hpb, _⟩ := hp0
  have hlt := heap_lt hpb
  have c3 := cell_of_heap hpb 3
  simp [hN] at c3
  have HP := Lib.hid (And.intro hp (And.intro hh (And.intro hca (And.intro hr (And.intro hN hpb)))))
  clear hp hh hca hr hno hN hpb
  go_enter Tryd.func58, Tryd.ntmps58
  go_upto_region 2 with fail
  obtain ⟨bx, hbx⟩ : ∃ bx, bx = w.heap.size := ⟨_, rfl⟩
  obtain ⟨W, hW⟩ : ∃ W, W = (w.alloc (.cells #[.pointer (some ⟨pb, 0, none⟩)] 101)).alloc (.cells #[.int .i64 ((N : Int) + 1), .int .i64 0, .bool false, .slice none 0 0, .slice none 0 0] 156) := ⟨_, rfl⟩
  have hwW : Win W (bx + 1) ((N : Int) + 1) 0 false [] [bx + 1] := by
    have := win_new (w.alloc (.cells #[.pointer (some ⟨pb, 0, none⟩)] 101)) ((N : Int) + 1) false
    rw [hW, hbx]
    simpa using this
  have bW : Below w.heap.size w W := by rw [hW]; exact ((Below.refl _ _).alloc (Nat.le_refl _) _).alloc (by simp) _
  have sW : W.heap.size = bx + 2 := by rw [hW, hbx]; simp
  have fb : W.cell? ⟨bx, 0, none⟩ = some (.pointer (some ⟨pb, 0, none⟩)) := by
    rw [hW, hbx, World.cell?_alloc_lt _ _ _ (by simp)]
    simp [World.cell?_alloc_new]
  have f3 : W.cell? ⟨pb, 3, none⟩ = some (.int .i64 (N : Int)) := (bW.cell (p := ⟨pb, 3, none⟩) hlt).trans c3
  have hpbx : pb < bx := by rw [hbx]; exact hlt
  have hbs := hbx
  rw [← hW, ← hbx]
  have HW := Lib.hid (And.intro hwW (And.intro bW (And.intro sW hbs)))
  have hsz : bx + 2 ≤ W.heap.size := by omega
  clear hW hbx hbs hwW bW sW c3 hlt
  go_region_held3 (fun w' => w'.cell? ⟨bx, 0, none⟩ = some (.pointer (some ⟨pb, 0, none⟩)) ∧ w'.cell? ⟨pb, 3, none⟩ = some (.int .i64 (N : Int))) (first | exact ⟨fb3, f33⟩ | exact ⟨fb, f3⟩ | exact ⟨fb1, f31⟩ | exact ⟨fb2, f32⟩ | exact ⟨(World.cell?_alloc_lt W _ ⟨bx, 0, none⟩ (by show bx < W.heap.size; omega)).trans fb, (World.cell?_alloc_lt W _ ⟨pb, 3, none⟩ (by show pb < W.heap.size; omega)).trans f3⟩ | exact ⟨(World.cell?_alloc_lt w1 _ ⟨bx, 0, none⟩ (by show bx < w1.heap.size; omega)).trans fb1, (World.cell?_alloc_lt w1 _ ⟨pb, 3, none⟩ (by show pb < w1.heap.size; omega)).trans f31⟩)
    (first
      | (go_at_call 57
         refine (decided_any pb p A c days W.drew (HP.out.1.below HW.out.2.1.drew) HP.out.2.1 HP.out.2.2.1 (HP.out.2.2.2.1.below HW.out.2.1.drew) hl).mono ?_
         rintro e w1 ⟨A1, c1, q1, rfl, o1, n1, b1⟩
         have fb1 : w1.cell? ⟨bx, 0, none⟩ = some (.pointer (some ⟨pb, 0, none⟩)) := (b1.cell (p := ⟨bx, 0, none⟩) (by show bx < W.heap.size; omega)).trans fb
         have f31 : w1.cell? ⟨pb, 3, none⟩ = some (.int .i64 (N : Int)) := (b1.cell (p := ⟨pb, 3, none⟩) (by show pb < W.heap.size; omega)).trans f3
         have hs1 : bx + 2 ≤ w1.heap.size := Nat.le_trans hsz b1.size
         have H1 := Lib.hid (And.intro o1 (And.intro n1 b1))
         clear o1 n1 b1)
      | (go_at_call 57
         refine (decided_any pb p A c days (W.alloc (.cells (noughts N) 3)).drew (HP.out.1.below (HW.out.2.1.alloc HW.out.2.1.size _).drew) HP.out.2.1 HP.out.2.2.1 (HP.out.2.2.2.1.below (HW.out.2.1.alloc HW.out.2.1.size _).drew) hl).mono ?_
         rintro e w1 ⟨A1, c1, q1, rfl, o1, n1, b1⟩
         have fb1 : w1.cell? ⟨bx, 0, none⟩ = some (.pointer (some ⟨pb, 0, none⟩)) := (b1.cell (p := ⟨bx, 0, none⟩) (by simp; omega)).trans ((World.cell?_alloc_lt W _ ⟨bx, 0, none⟩ (by show bx < W.heap.size; omega)).trans fb)
         have f31 : w1.cell? ⟨pb, 3, none⟩ = some (.int .i64 (N : Int)) := (b1.cell (p := ⟨pb, 3, none⟩) (by simp; omega)).trans ((World.cell?_alloc_lt W _ ⟨pb, 3, none⟩ (by show pb < W.heap.size; omega)).trans f3)
         have hs1 : bx + 2 ≤ w1.heap.size := Nat.le_trans (by simp; omega) b1.size
         have KM : Keep [] (W.alloc (.cells (noughts N) 3)) w1 := (Keep.refl [] _).drew.trans (Keep.of_below (S := []) b1) (by simp)
         have HM := Lib.hid KM
         have H1 := Lib.hid (And.intro o1 (And.intro n1 b1))
         clear o1 n1 b1 KM)
      | (refine step_append_As rfl (.tmp 20) (.tmp 23) 40 rfl i0 _ 8 Tryd.underlying40 hi hz0 hz1 hz2 rfl (A := some ⟨W.heap.size, 0, none⟩) (n := N) (c := N) (B := A1) (m := days.length) (d := c1) (xs := List.replicate N (.int .i64 0)) (fp := [W.heap.size]) (ys := ints (decidedS p days)) (by simp [Act.eval]) (by simp [Act.eval]) ((OwnA.made W 3 N (by omega)).keepS HM.out (by simp)) H1.out.1.rd (ints_one _) (by omega) (by omega) ?_
         intro A2 c2 w2 fp2 h1 h2 h3
         have K2 : Keep [] W w2 := (((Keep.refl [] W).alloc _).trans HM.out (by simp)).trans h3 (fun y hy => .inr (by rw [List.mem_singleton.1 hy]; exact Nat.le_refl _))
         have fb2 := K2.cell fb (by simp)
         have f32 := K2.cell f3 (by simp)
         have g2 : ∀ g ∈ fp2, bx + 2 ≤ g := fun g hg => by
           rcases h2 g hg with h4 | h4
           · rw [List.mem_singleton.1 h4]; exact hsz
           · omega
         have H2 := Lib.hid (And.intro h1 (And.intro K2 g2))
         clear h1 h2 h3 K2 g2)
      | (refine step_append_As rfl (.tmp 20) (.tmp 23) 40 rfl i0 _ 8 Tryd.underlying40 hi hz0 hz1 hz2 rfl (A := some ⟨w1.heap.size, 0, none⟩) (n := N) (c := N) (B := A1) (m := days.length) (d := c1) (xs := List.replicate N (.int .i64 0)) (fp := [w1.heap.size]) (ys := ints (decidedS p days)) (by simp [Act.eval]) (by simp [Act.eval]) (OwnA.made w1 3 N (by omega)) (H1.out.1.rd.below ((Below.refl _ _).alloc (Nat.le_refl _) _)) (ints_one _) (by omega) (by omega) ?_
         intro A2 c2 w2 fp2 h1 h2 h3
         have K2 : Keep [] W w2 := (((Keep.refl [] W).drew.trans (Keep.of_below (S := []) H1.out.2.2) (by simp)).alloc _).trans h3 (fun y hy => .inr (by rw [List.mem_singleton.1 hy]; exact H1.out.2.2.size))
         have fb2 := K2.cell fb (by simp)
         have f32 := K2.cell f3 (by simp)
         have g2 : ∀ g ∈ fp2, bx + 2 ≤ g := fun g hg => by
           rcases h2 g hg with h4 | h4
           · rw [List.mem_singleton.1 h4]; exact hs1
           · simp at h4; omega
         have H2 := Lib.hid (And.intro h1 (And.intro K2 g2))
         clear h1 h2 h3 K2 g2)
      | (go_at_call 81
         have hL : (List.replicate N (0 : Int) ++ decidedS p days).length = N + days.length := by simp [decidedS_length]
         have hc := each_any (bx + 1) ((N : Int) + 1) false A2 c2 (List.replicate N (0 : Int) ++ decidedS p days) w2 (HW.out.1.keepS H2.out.2.1 (by simp)) (by omega) (by omega) (by have := H2.out.1.rd; rw [hL]; simpa [ints] using this) (fun h0 b off e => by have := H2.out.2.2 b (H2.out.1.mem_ (by rw [← hL]; exact h0) e); omega) (by rw [hL]; omega)
         rw [hL] at hc
         refine hc.mono ?_
         have hSL : (slide ((N : Int) + 1) false (List.replicate N (0 : Int) ++ decidedS p days)).length = N + days.length := by rw [slide_length, hL]
         rintro e w3 ⟨A3, c3, q3, he, o3, n3, k3⟩
         rw [hSL] at he o3
         subst he
         have K3 : Keep [bx + 1] W w3 := (H2.out.2.1.mono (S' := [bx + 1]) (by simp)).trans k3 (by simp)
         have fb3 := K3.cell fb (by simp)
         have f33 := K3.cell f3 (by simp; omega)
         have hq3 : ∀ g ∈ q3, w.heap.size ≤ g := fun g hg => Nat.le_trans (Nat.le_trans HW.out.2.1.size H2.out.2.1.size) (n3 g hg)
         have H3 := Lib.hid (And.intro o3 (And.intro K3 hq3))
         clear o3 n3 k3 K3 hq3 hc hL hSL))
  all_goals go_wp2_with fail
  all_goals go_ret
  all_goals (have hB : Below w.heap.size w w3 := HW.out.2.1.trans (H3.out.2.1.below (by have := HW.out.2.1.size; omega) (by simp; have := HW.out.2.2.2; omega)))
  all_goals first | exact force_end H3.out.1 HP.out.2.2.2.2.1 hB hl H3.out.2.2 (.inr ⟨rfl, rfl⟩) | exact force_end H3.out.1 HP.out.2.2.2.2.1 hB hl H3.out.2.2 (.inl ⟨by first | assumption | (symm; assumption), rfl, rfl⟩)

theorem force_any (pb : Nat) (p : Pol) (A : Option Addr) (c : Nat) (days : List Int) (w : World) (hp : PolAt w pb p) (hh : 1 ≤ p.hold ∧ p.hold ≤ 1000) (hca : 1 ≤ p.calm ∧ p.calm ≤ 1000) (hno : 0 ≤ p.notice ∧ p.notice ≤ 900) (hr : Rd w 1 A days.length (ints days)) (hl : days.length ≤ 100000) :
    Calls Tryd.prog 58 #[.agg #[.pointer (some ⟨pb, 0, none⟩)], .slice A days.length c] w (forcePost w p days) :=
  (force_new pb p A c days w hp hh hca hno hr hl).mono fun _ _ ⟨A, c, h1, h2, h3, _⟩ => ⟨A, c, h1, h2, h3⟩
end Go.Proofs.YtalcinepeofmcaaDoor
/- rules.passes; slices.Index of a bool -/
namespace Go.Proofs.YtalcinepeofmcaaDoor
open Go Go.RowKit Sp

theorem bools_length (l : List Bool) : (bools l).length = l.length := by simp [bools]

theorem info_bool : (Tryd.prog.info? 4).map (fun i => (i.zero, i.size, i.bytes)) = some (some (.bool false), 1, 1) := by kernel_rfl

def passesPost (w : World) (p : Pol) (days : List Int) (v : Ves) (e : Ending) (w' : World) : Prop :=
  ∃ A c q, e = .returned (.slice A days.length c) ∧ OwnA w' 4 A days.length c (bools (passesS p days v)) q ∧ (∀ g ∈ q, w.heap.size ≤ g) ∧ Below w.heap.size w w'

/-- the step s of the policy in block pb -/
theorem PolAt.step {w : World} {pb : Nat} {p : Pol} (h : PolAt w pb p) {i : Nat} (hi : i < p.steps.length) : ∃ b off c, w.cell? ⟨pb, 0, none⟩ = some (.slice (some ⟨b, off, none⟩) p.steps.length c) ∧ b < w.heap.size ∧ p.steps.length ≤ 9223372036854775807 ∧
    w.cell? ⟨b, off + i * 4, none⟩ = some (.int .i64 p.steps[i].cls) ∧ w.cell? ⟨b, off + i * 4 + 1, none⟩ = some (.int .i64 p.steps[i].ton) ∧ w.cell? ⟨b, off + i * 4 + 2, none⟩ = some (.int .i64 p.steps[i].up) ∧ w.cell? ⟨b, off + i * 4 + 3, none⟩ = some (.int .i64 p.steps[i].dn) := by
  obtain ⟨A, c, hh, h1, h2, h3⟩ := h
  obtain ⟨b, off, rfl, hb, hc⟩ := h3.2 (by omega)
  obtain ⟨s0, s1, s2, s3⟩ := stcs_get hi
  have := cell_of_heap hh 0
  unfold maxLen at h2
  exact ⟨b, off, c, this, hb, by omega, hc _ _ s0, hc _ _ s1, hc _ _ s2, hc _ _ s3⟩

set_option maxRecDepth 100000 in
set_option maxHeartbeats 2000000 in
theorem passes_any (pb : Nat) (p : Pol) (A : Option Addr) (c : Nat) (days : List Int) (v : Ves) (w : World) (hp : PolAt w pb p) (hh : 1 ≤ p.hold ∧ p.hold ≤ 1000) (hca : 1 ≤ p.calm ∧ p.calm ≤ 1000) (hno : 0 ≤ p.notice ∧ p.notice ≤ 900) (hs : p.steps ≠ [])
    (hv : -1000000000 ≤ v.cls ∧ v.cls ≤ 1000000000) (hr : Rd w 1 A days.length (ints days)) (hl : days.length ≤ 100000) :
    Calls Tryd.prog 41 #[.agg #[.pointer (some ⟨pb, 0, none⟩)], .slice A days.length c, .agg #[.int .i64 v.cls, .int .i64 v.ton, .bool v.esc]] w (passesPost w p days v) := by
  obtain ⟨i0, hi, hz0, hz1, hz2⟩ := info_parts info_bool
  have HP := Lib.hid (And.intro hp (And.intro hh (And.intro hca (And.intro hno (And.intro hs (And.intro hv hr))))))
  clear hp hh hca hno hs hv hr
  go_enter Tryd.func41, Tryd.ntmps41
  go_wp2_with fail
  refine (force_any pb p A c days _ (HP.out.1.below ?_) HP.out.2.1 HP.out.2.2.1 HP.out.2.2.2.1 (HP.out.2.2.2.2.2.2.below ?_) hl).mono ?_
  · exact ((Below.refl _ _).alloc (Nat.le_refl _) _).alloc (by simp) _
  · exact ((Below.refl _ _).alloc (Nat.le_refl _) _).alloc (by simp) _
  rintro e w1 ⟨Af, cf, rfl, hf, hB⟩
  simp only [World.size_alloc] at hB
  have b1 : Below w.heap.size w w1 := (((Below.refl w.heap.size w).alloc (Nat.le_refl _) _).alloc (by simp) _).trans (hB.mono (by omega))
  have fr : w1.cell? ⟨w.heap.size, 0, none⟩ = some (.pointer (some ⟨pb, 0, none⟩)) := by
    rw [hB.cell (p := ⟨w.heap.size, 0, none⟩) (by simp; omega), World.cell?_alloc_lt _ _ _ (by simp)]
    simp [World.cell?_alloc_new]
  have fv : ∀ j u, (#[Value.int .i64 v.cls, .int .i64 v.ton, .bool v.esc] : Array Value)[j]? = some u → w1.cell? ⟨w.heap.size + 1, j, none⟩ = some u := by
    intro j u hu
    rw [hB.cell (p := ⟨w.heap.size + 1, j, none⟩) (by simp)]
    rw [← hu]
    have := World.cell?_alloc_new (w.alloc (.cells #[.pointer (some ⟨pb, 0, none⟩)] 101)) #[Value.int .i64 v.cls, .int .i64 v.ton, .bool v.esc] 53 j
    rw [World.size_alloc] at this
    exact this
  have fv0 := fv 0 _ rfl
  have fv1 := fv 1 _ rfl
  have fv2 := fv 2 _ rfl
  obtain ⟨bx, hbx⟩ : ∃ bx, bx = w.heap.size := ⟨_, rfl⟩
  rw [← hbx] at fr fv0 fv1 fv2 ⊢
  have HB := Lib.hid (And.intro b1 hbx)
  have HF := Lib.hid hf
  clear fv hB b1 hbx hf
  obtain ⟨F, hF⟩ : ∃ F, F = forceS p days := ⟨_, rfl⟩
  have hFl : F.length = days.length := by rw [hF, forceS_length]
  have hFr : ∀ y ∈ F, IsStep p y := by rw [hF]; exact forceS_range HP.out.2.2.2.2.1 HP.out.2.2.2.1.1 days
  have HFF := Lib.hid (And.intro hF (And.intro hFl hFr))
  have hrd : Rd w1 1 Af days.length (ints F) := by rw [hF]; have := HF.out.1; rwa [forceS_length] at this
  clear hF hFl hFr
  go_wp2_with fail
  go_loopw [7, 14] (fun o i wr => ∃ (k : Nat) (Ao : Option Addr) (co : Nat) (q : List Nat), k ≤ days.length ∧ i = .int .i64 k ∧ o = .slice Ao k co ∧ OwnA wr 4 Ao k co (bools ((passesS p days v).take k)) q ∧ (∀ g ∈ q, w1.heap.size ≤ g) ∧ Keep [] w1 wr)
    (fun _ i _ => days.length - (intOf i).toNat)
  case atStart => exact ⟨0, none, 0, [], Nat.zero_le _, rfl, rfl, OwnA.nil _ _, by simp, Keep.refl _ _⟩
  case round =>
    obtain ⟨k, Ao, co, q, hk, rfl, rfl, hown, hq, hK⟩ := hrel
    by_cases hlt : k < days.length
    · obtain ⟨bf, of, rfl, hbf, hcf⟩ := hrd.2 (by omega)
      have hkF : k < F.length := by rw [HFF.out.2.1]; exact hlt
      obtain ⟨j, hj⟩ : ∃ j : Nat, F.getD k 0 = (j : Int) := by
        have := getD_all HFF.out.2.2 (isStep_zero HP.out.2.2.2.2.1) k
        exact ⟨(F.getD k 0).toNat, by have := this.1; omega⟩
      have hjl : j < p.steps.length := by
        have := getD_all HFF.out.2.2 (isStep_zero HP.out.2.2.2.2.1) k
        rw [hj] at this
        have := this.2; omega
      have cF := hK.cell (hcf k (.int .i64 (F.getD k 0)) (ints_get hkF)) (by simp)
      rw [hj] at cF
      have PW : PolAt w1 pb p := HP.out.1.below HB.out.1
      obtain ⟨bs, os, cs, p0, hbs, hsl, p1, p2, p3, p4⟩ := PW.step hjl
      obtain ⟨st, hst⟩ : ∃ st, st = p.steps[j] := ⟨_, rfl⟩
      rw [← hst] at p1 p2 p3 p4
      have hb0 : bx < w1.heap.size := World.block_lt_of_cell? w1 _ fr
      have KC : ∀ {b o : Nat} {u : Value}, w1.cell? ⟨b, o, none⟩ = some u → ∀ w', Keep q wr w' → w'.cell? ⟨b, o, none⟩ = some u := fun h w' hk =>
        hk.cell (hK.cell h (by simp)) (fun hm => by have := hq _ hm; have := World.block_lt_of_cell? w1 _ h; simp at this; omega)
      have r0' := KC fr
      have v0' := KC fv0
      have v1' := KC fv1
      have v2' := KC fv2
      have p0' := KC p0
      have p1' := KC p1
      have p2' := KC p2
      have p3' := KC p3
      have p4' := KC p4
      have HI := Lib.hid (And.intro hown (And.intro hq (And.intro hK (And.intro hj (And.intro hst hkF)))))
      have hjl' : (j : Int) < (p.steps.length : Int) := by omega
      clear hown hq hK hj hst hkF KC hcf PW p0 p1 p2 p3 p4
      go_upto_region 5 with fail
      go_region_held3 (fun w' => Keep q wr w') (first | exact (Keep.refl _ _).drew | assumption | exact K2q.alloc _)
        (first
          | (go_at_call 66
             refine (fulfils_any v st _ HP.out.2.2.2.2.2.1).mono ?_
             rintro e w2 ⟨rfl, hB2⟩
             have K2 : Keep [] wr w2 := (Keep.refl [] wr).drew.trans (Keep.of_below (S := []) hB2) (by simp)
             have K2q : Keep q wr w2 := K2.mono (by simp)
             clear hB2)
          | (refine step_append_A rfl (.tmp 18) (.tmp 29) 104 rfl i0 _ 1 Tryd.underlying104 hi hz0 hz1 hz2 rfl (A := Ao) (n := k) (c := co) (xs := bools ((passesS p days v).take k)) (fp := q) (by simp [Act.eval]) _ (by simp [Act.eval]) (.bool (fulfils v st)) ((HI.out.1.keepS K2 (by simp)).alloc _) (cell_new_one _ _ _) rfl (by omega) (by omega) ?_
             intro g off' c' w3 h1 h2 h3 h4
             have HQ := Lib.hid (And.intro h1 (And.intro h2 h4))
             have K3 : Keep q wr w3 := ((K2.mono (S' := q) (by simp)).alloc _).trans h4 (fun y hy => .inl hy)
             clear h1 h2 h3 h4))
      go_wp2_with fail
      go_roundw
      case rel =>
        obtain ⟨h1, h2, h4⟩ := HQ.out
        obtain ⟨hown, hq, hK, hj, hst, hkF⟩ := HI.out
        have hw1 := hK.size
        have hw2 := K2.size
        have ht : (passesS p days v).take (k + 1) = (passesS p days v).take k ++ [fulfils v st] := by
          have hkp : k < (passesS p days v).length := by rw [passesS_length]; exact hlt
          rw [List.take_succ_eq_append_getElem hkp]
          congr 2
          rw [List.getD_eq_getElem?_getD, List.getElem?_eq_getElem hkF] at hj
          simp only [Option.getD_some] at hj
          simp only [passesS, ← HFF.out.1, List.getElem_map, hj, Int.toNat_natCast]
          rw [hst, List.getD_eq_getElem?_getD, List.getElem?_eq_getElem hjl]
          rfl
        refine ⟨k + 1, some ⟨g, off', none⟩, c', [g], by omega, by go_num, rfl, by rw [ht]; simpa [bools] using h1, ?_, ((hK.trans K2 (by simp)).alloc _).trans h4 (fun y hy => .inr (hq y hy))⟩
        intro y hy
        rw [List.mem_singleton.1 hy]
        rcases h2 with h2 | h2
        · exact hq _ h2
        · simp at h2; omega
      case measure => simp [intOf]; omega
    · obtain rfl : k = days.length := by omega
      go_wp2_with fail
      go_ret
      have hb1 := HB.out.1
      have hbs := hb1.size
      rw [List.take_of_length_le (by rw [passesS_length]; exact Nat.le_refl _)] at hown
      exact ⟨Ao, co, q, rfl, hown, fun y hy => by have := hq y hy; omega, hb1.trans (hK.below (by omega) (by simp))⟩

/-- slices.Index of a bool -/
def idxB (x : Bool) (l : List Bool) : Int := match l.findIdx? (· == x) with | some i => (i : Int) | none => -1

end Go.Proofs.YtalcinepeofmcaaDoor
