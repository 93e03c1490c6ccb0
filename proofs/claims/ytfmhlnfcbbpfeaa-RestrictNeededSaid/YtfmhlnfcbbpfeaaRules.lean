/- The rules of layer 8 at work: raised, kept. -/
import Derived.Test.YtfmhlnfcbbpfeaaLeaf
import Derived.Test.YtfmhlnfcbbpfeaaMem
import Derived.Test.YtfmhlnfcbbpfeaaEach
namespace Go.Proofs.Ytfmhlnfcbbpfeaa
open Go Go.RowKit Sp

theorem win_new (w : World) (wide : Int) (gr : Bool) : Win (w.alloc (.cells #[.int .i64 wide, .int .i64 0, .bool gr, .slice none 0 0, .slice none 0 0] 197)) w.heap.size wide 0 gr [] [w.heap.size] := by
  refine ⟨none, 0, none, 0, [], [], rfl, Keep.refl _ _, heap_alloc_new w _, OwnA.nil _ _, OwnA.nil _ _, by simp, by simp, by simp, by simp, by simp⟩

theorem PolAt.below {w w' : World} {pb : Nat} {p : Pol} (h : PolAt w pb p) (hb : Below w.heap.size w w') : PolAt w' pb p := by
  obtain ⟨A, c, hh, h1, h2, h3⟩ := h
  exact ⟨A, c, (hb.block pb (heap_lt hh)).trans hh, h1, h2, h3.below hb⟩

def raisedPost (w : World) (p : Pol) (days : List Int) (e : Ending) (w' : World) : Prop :=
  ∃ A c q, e = .returned (.slice A days.length c) ∧ OwnA w' 3 A days.length c (ints (raisedS p days)) q ∧ (∀ g ∈ q, w.heap.size ≤ g) ∧ Below w.heap.size w w'

set_option maxHeartbeats 1000000 in
theorem raised_any (pb : Nat) (p : Pol) (A : Option Addr) (c : Nat) (days : List Int) (w : World) (hp : PolAt w pb p) (hh : 1 ≤ p.hold ∧ p.hold ≤ 1000) (hr : Rd w 1 A days.length (ints days)) (hl : days.length ≤ 100000) :
    Calls Try.prog 128 #[.agg #[.pointer (some ⟨pb, 0, none⟩)], .slice A days.length c] w (raisedPost w p days) := by
  have hp0 := hp
  obtain ⟨As, cs, hpb, hnc, hcm, hrs⟩ := hp
  have hlt := heap_lt hpb
  have c1 := cell_of_heap hpb 1
  simp at c1
  obtain ⟨h1, h2⟩ := hh
  have HP := Lib.hid hp0
  clear hpb hnc hcm hrs hp0
  go_enter Try.func128, Try.ntmps128
  go_wp2_with fail
  -- each(days, push)
  have hwin : ∀ wx : World, Win (wx.alloc (.cells #[.int .i64 p.hold, .int .i64 0, .bool false, .slice none 0 0, .slice none 0 0] 197)) wx.heap.size p.hold 0 false [] [wx.heap.size] := fun wx => win_new wx _ _
  refine (each_any (w.heap.size + 1) p.hold false A c days _ (by have := hwin (w.alloc (.cells #[.pointer (some ⟨pb, 0, none⟩)] 143)); simpa using this) h1 h2 ((hr.below ((Below.refl _ _).alloc (Nat.le_refl _) _)).below ((Below.refl _ _).alloc (Nat.le_refl _) _)) (fun h0 b off e => ?_) (by omega)).mono ?_
  · have := hr.lt' h0 e
    omega
  rintro e w2 ⟨Ao, co, q, rfl, hown, hqn, hk2⟩
  rw [slide_length] at hown ⊢
  have s2 := hk2.size
  simp only [World.size_alloc] at hqn s2
  have b2 : Below w.heap.size w w2 := (((Below.refl w.heap.size w).alloc (Nat.le_refl _) _).alloc (by simp) _).trans (hk2.below' (by simp; omega) (by simp))
  have fbox : w2.cell? ⟨w.heap.size, 0, none⟩ = some (.pointer (some ⟨pb, 0, none⟩)) := hk2.cell (by simp) (by simp)
  have P2 := HP.out.below b2
  have c12 : w2.cell? ⟨pb, 1, none⟩ = some (.int .i64 p.hold) := (b2.cell (p := ⟨pb, 1, none⟩) hlt).trans c1
  have HQ := Lib.hid (And.intro hqn (And.intro P2 b2))
  have HPB := Lib.hid hlt
  obtain ⟨sl, hsl⟩ : ∃ sl, sl = slide p.hold false days := ⟨_, rfl⟩
  have hsll : sl.length = days.length := by rw [hsl, slide_length]
  rw [← hsl] at hown
  have HSL := Lib.hid (And.intro hsl hsll)
  obtain ⟨n, hn⟩ : ∃ n, n = days.length := ⟨_, rfl⟩
  have HN := Lib.hid hn
  rw [← hn] at hown hl ⊢
  clear hwin hqn P2 b2 hk2 c1 hsl hsll hn hr hlt
  go_wp2_with fail
  go_loopw [22] (fun i wr => ∃ k : Nat, k ≤ n ∧ i = .int .i64 k ∧ OwnA wr 3 Ao n co (ints (mixN (raisedAt p sl) sl k)) q ∧ Keep q w2 wr)
    (fun i _ => n - (intOf i).toNat)
  case atStart => exact ⟨0, Nat.zero_le _, rfl, by rw [mixN_zero]; exact hown, Keep.refl _ _⟩
  case round =>
    obtain ⟨k, hk, rfl, hownr, hK⟩ := hrel
    by_cases hlt : k < n
    · obtain ⟨g, off, rfl, rfl, hg, hat, hfz⟩ := hownr.some_ (by omega)
      have hgn := HQ.out.1 g (by simp)
      obtain ⟨x, hx⟩ : ∃ x, x = sl.getD k 0 := ⟨_, rfl⟩
      have ck : wr.cell? ⟨g, off + k, none⟩ = some (.int .i64 x) := hat k _ (by
        have h3 := HSL.out.2
        have h4 := HN.out
        have : (mixN (raisedAt p sl) sl k).getD k 0 = sl.getD k 0 := mixN_get _ _ _ (by omega)
        rw [← hx] at this
        have hm := mixN_length (raisedAt p sl) sl k
        simp only [ints, List.getElem?_map]
        rw [List.getD_eq_getElem?_getD] at this
        rw [List.getElem?_eq_getElem (by omega)] at this ⊢
        simpa using this)
      have zk := hfz (off + k)
      have fboxr := hK.cell fbox (by simp; omega)
      have c1r := hK.cell c12 (by have := HPB.out; simp; omega)
      have bB : Below w.heap.size w wr := HQ.out.2.2.trans (hK.below (by have := HQ.out.2.2.size; omega) (fun y hy => by rw [List.mem_singleton.1 hy]; omega))
      have PR := HP.out.below bB
      have HR := Lib.hid (And.intro hownr (And.intro hK PR))
      have HX := Lib.hid hx
      have HH := Lib.hid h1
      clear hownr hK PR hat hfz hx bB fbox c12
      have sev : Calls Try.prog 131 #[.agg #[.pointer (some ⟨pb, 0, none⟩)], .int .i64 (if (k : Int) + 1 < p.hold then 0 else x), .func (.func 147) #[] #[]] wr fun e w' => e = .returned (.int .i64 (raisedAt p sl k)) ∧ Below wr.heap.size wr w' := by
        have := upToUp_any pb p (if (k : Int) + 1 < p.hold then 0 else x) wr HR.out.2.2
        rw [HX.out] at this
        rw [HX.out]
        exact this
      have SEV := Lib.hid sev
      clear sev
      by_cases hh : (k : Int) + 1 < p.hold
      · have hs := SEV.out
        rw [if_pos hh] at hs
        have HS := Lib.hid hs
        clear hs
        go_wp2_with (go_at_call 131; refine HS.out.mono ?_; rintro e w3 ⟨rfl, hB3⟩; have ck3 := (hB3.cell (p := ⟨g, off + k, none⟩) hg).trans ck; have zk3 := (hB3.frozen (p := ⟨g, off + k, none⟩) hg).trans zk; have HB3 := Lib.hid hB3; clear hB3)
        go_roundw
        case rel =>
          have hs := HSL.out.2
          have hl := HN.out
          have h5 := ((HR.out.1.keepS (Keep.of_below (S := []) HB3.out) (by simp)).set_ hlt (.int .i64 (raisedAt p sl k)))
          have h6 : (ints (mixN (raisedAt p sl) sl k)).set k (.int .i64 (raisedAt p sl k)) = ints (mixN (raisedAt p sl) sl (k + 1)) := by
            rw [← mixN_set]; simp [ints]
          rw [h6] at h5
          exact ⟨k + 1, by omega, by go_num, h5, (HR.out.2.1.trans (Keep.of_below (S := []) HB3.out) (by simp)).setCell (.inl (by simp)) _⟩
        case measure => simp [intOf]; omega
      · have hs := SEV.out
        rw [if_neg hh] at hs
        have HS := Lib.hid hs
        clear hs
        go_wp2_with (go_at_call 131; refine HS.out.mono ?_; rintro e w3 ⟨rfl, hB3⟩; have ck3 := (hB3.cell (p := ⟨g, off + k, none⟩) hg).trans ck; have zk3 := (hB3.frozen (p := ⟨g, off + k, none⟩) hg).trans zk; have HB3 := Lib.hid hB3; clear hB3)
        go_roundw
        case rel =>
          have hs := HSL.out.2
          have hl := HN.out
          have h5 := ((HR.out.1.keepS (Keep.of_below (S := []) HB3.out) (by simp)).set_ hlt (.int .i64 (raisedAt p sl k)))
          have h6 : (ints (mixN (raisedAt p sl) sl k)).set k (.int .i64 (raisedAt p sl k)) = ints (mixN (raisedAt p sl) sl (k + 1)) := by
            rw [← mixN_set]; simp [ints]
          rw [h6] at h5
          exact ⟨k + 1, by omega, by go_num, h5, (HR.out.2.1.trans (Keep.of_below (S := []) HB3.out) (by simp)).setCell (.inl (by simp)) _⟩
        case measure => simp [intOf]; omega
    · obtain rfl : k = n := by omega
      have hs := HSL.out.2
      have hl := HN.out
      have hq := HQ.out
      go_wp2_with fail
      go_ret
      rw [show mixN (raisedAt p sl) sl k = raisedS p days from by rw [raisedS, ← HSL.out.1, ← hl, ← hs.trans hl.symm, mixN_all]] at hownr
      refine ⟨Ao, co, q, by rw [← hl]; rfl, by rw [← hl]; exact hownr, fun y hy => by have := hq.1 y hy; omega, hq.2.2.trans (hK.below (by have := hq.2.2.size; omega) (fun y hy => by have := hq.1 y hy; omega))⟩

def keptPost (w : World) (p : Pol) (days : List Int) (e : Ending) (w' : World) : Prop :=
  ∃ A c q, e = .returned (.slice A days.length c) ∧ OwnA w' 3 A days.length c (ints (keptS p days)) q ∧ (∀ g ∈ q, w.heap.size ≤ g) ∧ Below w.heap.size w w'

set_option maxHeartbeats 1000000 in
theorem kept_any (pb : Nat) (p : Pol) (A : Option Addr) (c : Nat) (days : List Int) (w : World) (hp : PolAt w pb p) (hh : 1 ≤ p.calm ∧ p.calm ≤ 1000) (hr : Rd w 1 A days.length (ints days)) (hl : days.length ≤ 100000) :
    Calls Try.prog 84 #[.agg #[.pointer (some ⟨pb, 0, none⟩)], .slice A days.length c] w (keptPost w p days) := by
  have hp0 := hp
  obtain ⟨As, cs, hpb, hnc, hcm, hrs⟩ := hp
  have hlt := heap_lt hpb
  have c1 := cell_of_heap hpb 2
  simp at c1
  obtain ⟨h1, h2⟩ := hh
  have HP := Lib.hid hp0
  clear hpb hnc hcm hrs hp0
  go_enter Try.func84, Try.ntmps84
  go_wp2_with fail
  -- each(days, push)
  have hwin : ∀ wx : World, Win (wx.alloc (.cells #[.int .i64 p.calm, .int .i64 0, .bool true, .slice none 0 0, .slice none 0 0] 197)) wx.heap.size p.calm 0 true [] [wx.heap.size] := fun wx => win_new wx _ _
  refine (each_any (w.heap.size + 1) p.calm true A c days _ (by have := hwin (w.alloc (.cells #[.pointer (some ⟨pb, 0, none⟩)] 143)); simpa using this) h1 h2 ((hr.below ((Below.refl _ _).alloc (Nat.le_refl _) _)).below ((Below.refl _ _).alloc (Nat.le_refl _) _)) (fun h0 b off e => ?_) (by omega)).mono ?_
  · have := hr.lt' h0 e
    omega
  rintro e w2 ⟨Ao, co, q, rfl, hown, hqn, hk2⟩
  rw [slide_length] at hown ⊢
  have s2 := hk2.size
  simp only [World.size_alloc] at hqn s2
  have b2 : Below w.heap.size w w2 := (((Below.refl w.heap.size w).alloc (Nat.le_refl _) _).alloc (by simp) _).trans (hk2.below' (by simp; omega) (by simp))
  have fbox : w2.cell? ⟨w.heap.size, 0, none⟩ = some (.pointer (some ⟨pb, 0, none⟩)) := hk2.cell (by simp) (by simp)
  have P2 := HP.out.below b2
  have c12 : w2.cell? ⟨pb, 2, none⟩ = some (.int .i64 p.calm) := (b2.cell (p := ⟨pb, 2, none⟩) hlt).trans c1
  have HQ := Lib.hid (And.intro hqn (And.intro P2 b2))
  have HPB := Lib.hid hlt
  obtain ⟨sl, hsl⟩ : ∃ sl, sl = slide p.calm true days := ⟨_, rfl⟩
  have hsll : sl.length = days.length := by rw [hsl, slide_length]
  rw [← hsl] at hown
  have HSL := Lib.hid (And.intro hsl hsll)
  obtain ⟨n, hn⟩ : ∃ n, n = days.length := ⟨_, rfl⟩
  have HN := Lib.hid hn
  rw [← hn] at hown hl ⊢
  clear hwin hqn P2 b2 hk2 c1 hsl hsll hn hr hlt
  go_wp2_with fail
  go_loopw [22] (fun i wr => ∃ k : Nat, k ≤ n ∧ i = .int .i64 k ∧ OwnA wr 3 Ao n co (ints (mixN (keptAt p sl) sl k)) q ∧ Keep q w2 wr)
    (fun i _ => n - (intOf i).toNat)
  case atStart => exact ⟨0, Nat.zero_le _, rfl, by rw [mixN_zero]; exact hown, Keep.refl _ _⟩
  case round =>
    obtain ⟨k, hk, rfl, hownr, hK⟩ := hrel
    by_cases hlt : k < n
    · obtain ⟨g, off, rfl, rfl, hg, hat, hfz⟩ := hownr.some_ (by omega)
      have hgn := HQ.out.1 g (by simp)
      obtain ⟨x, hx⟩ : ∃ x, x = sl.getD k 0 := ⟨_, rfl⟩
      have ck : wr.cell? ⟨g, off + k, none⟩ = some (.int .i64 x) := hat k _ (by
        have h3 := HSL.out.2
        have h4 := HN.out
        have : (mixN (keptAt p sl) sl k).getD k 0 = sl.getD k 0 := mixN_get _ _ _ (by omega)
        rw [← hx] at this
        have hm := mixN_length (keptAt p sl) sl k
        simp only [ints, List.getElem?_map]
        rw [List.getD_eq_getElem?_getD] at this
        rw [List.getElem?_eq_getElem (by omega)] at this ⊢
        simpa using this)
      have zk := hfz (off + k)
      have fboxr := hK.cell fbox (by simp; omega)
      have c1r := hK.cell c12 (by have := HPB.out; simp; omega)
      have bB : Below w.heap.size w wr := HQ.out.2.2.trans (hK.below (by have := HQ.out.2.2.size; omega) (fun y hy => by rw [List.mem_singleton.1 hy]; omega))
      have PR := HP.out.below bB
      have HR := Lib.hid (And.intro hownr (And.intro hK PR))
      have HX := Lib.hid hx
      have HH := Lib.hid h1
      clear hownr hK PR hat hfz hx bB fbox c12
      have sev : Calls Try.prog 131 #[.agg #[.pointer (some ⟨pb, 0, none⟩)], .int .i64 x, .func (.func 132) #[] #[]] wr fun e w' => e = .returned (.int .i64 (keptAt p sl k)) ∧ Below wr.heap.size wr w' := by
        have := upToDn_any pb p x wr HR.out.2.2
        rw [HX.out] at this
        rw [HX.out]
        exact this
      have HS := Lib.hid sev
      clear sev
      go_wp2_with (go_at_call 131; refine HS.out.mono ?_; rintro e w3 ⟨rfl, hB3⟩; have ck3 := (hB3.cell (p := ⟨g, off + k, none⟩) hg).trans ck; have zk3 := (hB3.frozen (p := ⟨g, off + k, none⟩) hg).trans zk; have HB3 := Lib.hid hB3; clear hB3)
      go_roundw
      case rel =>
        have hs := HSL.out.2
        have hl := HN.out
        have h5 := ((HR.out.1.keepS (Keep.of_below (S := []) HB3.out) (by simp)).set_ hlt (.int .i64 (keptAt p sl k)))
        have h6 : (ints (mixN (keptAt p sl) sl k)).set k (.int .i64 (keptAt p sl k)) = ints (mixN (keptAt p sl) sl (k + 1)) := by
          rw [← mixN_set]; simp [ints]
        rw [h6] at h5
        exact ⟨k + 1, by omega, by go_num, h5, (HR.out.2.1.trans (Keep.of_below (S := []) HB3.out) (by simp)).setCell (.inl (by simp)) _⟩
      case measure => simp [intOf]; omega
    · obtain rfl : k = n := by omega
      have hs := HSL.out.2
      have hl := HN.out
      have hq := HQ.out
      go_wp2_with fail
      go_ret
      rw [show mixN (keptAt p sl) sl k = keptS p days from by rw [keptS, ← HSL.out.1, ← hl, ← hs.trans hl.symm, mixN_all]] at hownr
      refine ⟨Ao, co, q, by rw [← hl]; rfl, by rw [← hl]; exact hownr, fun y hy => by have := hq.1 y hy; omega, hq.2.2.trans (hK.below (by have := hq.2.2.size; omega) (fun y hy => by have := hq.1 y hy; omega))⟩
end Go.Proofs.Ytfmhlnfcbbpfeaa
