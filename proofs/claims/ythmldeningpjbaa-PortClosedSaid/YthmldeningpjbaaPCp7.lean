/- restrict.each over a new window's push: the least (or greatest) of the last numbers, at each number. -/
import Derived.Test.YthmldeningpjbaaPCp6
import Derived.Test.YthmldeningpjbaaPCp2
import Derived.Test.YthmldeningpjbaaPCp3
import Derived.Deep.RegionHeld3
import Derived.Test.YthmldeningpjbaaPCp4
set_option linter.unusedVariables false
set_option linter.unusedSimpArgs false
namespace Go.Proofs.Ythmldeningpjbaa
open Go Go.RowKit Sp

/-- what each(days, w.push) leaves -/
def EachPost (w : World) (pb : Nat) (out : List Int) (e : Ending) (w' : World) : Prop :=
  ∃ A c q, e = .returned (.slice A out.length c) ∧ OwnA w' 3 A out.length c (ints out) q ∧ (∀ g ∈ q, w.heap.size ≤ g) ∧ Keep [pb] w w'

/-- between the rounds -/
structure EachInv (w wr : World) (pb : Nat) (wide : Int) (gr : Bool) (xs : List Int) (k : Nat) (A : Option Addr) (c : Nat) (q fp : List Nat) : Prop where
  own : OwnA wr 3 A k c (ints (slideN wide gr xs k)) q
  win : Win wr pb wide (k : Int) gr (dq wide gr xs k) fp
  keep : Keep [pb] w wr
  qn : ∀ g ∈ q, w.heap.size ≤ g
  fn : ∀ g ∈ fp, g = pb ∨ w.heap.size ≤ g
  dis : ∀ g ∈ q, g ∉ fp

theorem Win.lt {w : World} {pb : Nat} {wide at_ : Int} {gr : Bool} {D : List (Int × Int)} {fp : List Nat} (h : Win w pb wide at_ gr D fp) : ∀ g ∈ fp, g < w.heap.size := by
  obtain ⟨A1, c1, A2, c2, fp1, fp2, rfl, hS⟩ := h
  intro g hg
  rcases List.mem_cons.1 hg with rfl | hg
  · exact heap_lt hS.cells
  · rcases List.mem_append.1 hg with hg | hg
    · exact hS.o1.lt g hg
    · exact hS.o2.lt g hg

theorem Win.keepS {w w' : World} {pb : Nat} {wide at_ : Int} {gr : Bool} {D : List (Int × Int)} {fp S : List Nat} (h : Win w pb wide at_ gr D fp) (hk : Keep S w w') (hd : ∀ g ∈ fp, g ∉ S) : Win w' pb wide at_ gr D fp := by
  have hlt := h.lt
  obtain ⟨A1, c1, A2, c2, fp1, fp2, hfp, hS⟩ := h
  refine ⟨A1, c1, A2, c2, fp1, fp2, hfp, Keep.refl _ _, ?_, hS.o1.keepS hk fun g hg => hd g (by rw [hfp]; simp [hg]), hS.o2.keepS hk fun g hg => hd g (by rw [hfp]; simp [hg]), hS.d12, hS.p1, hS.p2, fun g hg => .inl (by rw [hfp]; simp [hg]), fun g hg => .inl (by rw [hfp]; simp [hg])⟩
  exact (hk.block pb (heap_lt hS.cells) (hd pb (by rw [hfp]; simp))).trans hS.cells

theorem EachInv.step {w wr w1 w2 : World} {pb : Nat} {wide : Int} {gr : Bool} {xs : List Int} {k : Nat} {A : Option Addr} {c : Nat} {q fp fp1 : List Nat} (h : EachInv w wr pb wide gr xs k A c q fp)
    (hw : Win w1 pb wide ((k : Int) + 1) gr (dq wide gr xs (k + 1)) fp1) (hk : Keep fp wr w1) (hf : ∀ g ∈ fp1, g ∈ fp ∨ wr.heap.size ≤ g) {o : Obj} {g off c' : Nat}
    (ho : OwnA w2 3 (some ⟨g, off, none⟩) (k + 1) c' (ints (slideN wide gr xs k) ++ [.int .i64 (headV (dq wide gr xs (k + 1)))]) [g]) (hg : g ∈ q ∨ (w1.alloc o).heap.size = g) (hk2 : Keep q (w1.alloc o) w2) :
    EachInv w w2 pb wide gr xs (k + 1) (some ⟨g, off, none⟩) c' [g] fp1 := by
  have s1 := h.keep.size
  have s2 := hk.size
  have ha := hk2.size
  simp only [World.size_alloc] at hg ha
  have hq1 : ∀ x ∈ q, x ∉ fp1 := fun x hx hm => by
    rcases hf x hm with h1 | h1
    · exact h.dis x hx h1
    · have := h.own.lt x hx; omega
  refine ⟨?_, ?_, ?_, ?_, ?_, ?_⟩
  · rw [slideN_succ]
    simpa [ints] using ho
  · have hw1 : Win (w1.alloc o) pb wide ((k : Int) + 1) gr (dq wide gr xs (k + 1)) fp1 := hw.keepS ((Keep.refl [] w1).alloc o) (by simp)
    exact hw1.keepS hk2 (fun x hx hm => hq1 x hm hx)
  · have h1 : Keep [pb] w w1 := h.keep.trans hk (fun x hx => by
      rcases h.fn x hx with rfl | h2
      · exact .inl (by simp)
      · exact .inr h2)
    exact (h1.alloc o).trans hk2 (fun x hx => .inr (h.qn x hx))
  · intro x hx
    rw [List.mem_singleton.1 hx]
    rcases hg with hg | hg
    · exact h.qn _ hg
    · omega
  · intro x hx
    rcases hf x hx with h1 | h1
    · exact h.fn x h1
    · right; omega
  · intro x hx hm
    rw [List.mem_singleton.1 hx] at hm
    rcases hg with hg | hg
    · exact hq1 _ hg hm
    · have := hw.lt _ hm; omega

set_option maxHeartbeats 1000000 in
theorem each_any (pb : Nat) (wide : Int) (gr : Bool) (A : Option Addr) (c : Nat) (xs : List Int) (w : World) (hwin : Win w pb wide 0 gr [] [pb]) (hw1 : 1 ≤ wide) (hw2 : wide ≤ 1000)
    (hr : Rd w 1 A xs.length (ints xs)) (hA : 0 < xs.length → ∀ b off, A = some ⟨b, off, none⟩ → b ≠ pb) (hl : xs.length ≤ 1000000) :
    Calls Try.prog 144 #[.slice A xs.length c, .func (.func 146) #[.pointer (some ⟨pb, 0, none⟩)] #[]] w (EachPost w pb (slide wide gr xs)) := by
  obtain ⟨i0, hi, hz0, hz1, hz2⟩ := info_parts info_int
  go_enter Try.func144, Try.ntmps144
  go_wp2_with fail
  go_loopw [5, 10] (fun v i wr => ∃ (k : Nat) (Ao : Option Addr) (co : Nat) (q f : List Nat), k ≤ xs.length ∧ i = .int .i64 k ∧ v = .slice Ao k co ∧ EachInv w wr pb wide gr xs k Ao co q f)
    (fun _ i _ => xs.length - (intOf i).toNat)
  case atStart => exact ⟨0, none, 0, [], [pb], Nat.zero_le _, rfl, rfl, ⟨OwnA.nil _ _, hwin, Keep.refl _ _, by simp, by simp, by simp⟩⟩
  case round =>
    obtain ⟨k, Ao, co, q, f, hk, rfl, rfl, hinv⟩ := hrel
    by_cases hlt : k < xs.length
    · obtain ⟨b, off, rfl, hb, hc⟩ := hr.2 (by omega)
      have hbp := hA (by omega) b off rfl
      have c0 : wr.cell? ⟨b, off + k, none⟩ = some (.int .i64 (xs.getD k 0)) := by
        rw [← hc k (.int .i64 (xs.getD k 0)) (by simp [ints, hlt])]
        exact World.cell?_of_block (w := w) (hinv.keep.block b hb (by simpa using hbp))
      obtain ⟨x, hx⟩ : ∃ x, x = xs.getD k 0 := ⟨_, rfl⟩
      rw [← hx] at c0
      have HX := Lib.hid hx
      have HI := Lib.hid hinv
      have hdl := dq_length wide gr xs k
      clear hc hx hbp hA hwin hinv hr
      go_wp2_with (first
        | (go_at_call 146; refine (push_any pb (dq wide gr xs k) f wide k x gr wr HI.out.win hw1 hw2 (by omega) (by omega) (by omega)).mono ?_; rintro e w1 ⟨f1, rfl, hwin1, hk1, hf1⟩; have HP := Lib.hid (And.intro hwin1 (And.intro hk1 hf1)); clear hwin1 hk1 hf1)
        | (at_builtin
           refine wpList_append_A rfl (.tmp 14) (.tmp 18) 33 rfl i0 _ 8 Try.underlying33 hi hz0 hz1 hz2 rfl (A := Ao) (n := k) (c := co) (xs := ints (slideN wide gr xs k)) (fp := q) (by simp [Act.eval]) _ (by simp [Act.eval]; rfl) (.int .i64 (headV (pushD wide k gr (dq wide gr xs k) x))) ((HI.out.own.keepS HP.out.2.1 HI.out.dis).alloc _) (by simp) rfl (by omega) (by omega) ?_
           intro g off' c' w2 h1 h2 h3 h4
           have HQ := Lib.hid (And.intro h1 (And.intro h2 h4))
           clear h1 h2 h3 h4))
      go_roundw
      case rel =>
        obtain ⟨h1, h2, h4⟩ := HQ.out
        obtain ⟨hwin1, hk1, hf1⟩ := HP.out
        rw [HX.out] at h1 hwin1
        exact ⟨k + 1, _, _, _, _, by omega, by go_num, rfl, HI.out.step hwin1 hk1 hf1 h1 h2 h4⟩
      case measure => simp [intOf]; omega
    · obtain rfl : k = xs.length := by omega
      go_wp2_with fail
      go_ret
      have hs : (slide wide gr xs).length = xs.length := by simp [slide, slideN]
      exact ⟨Ao, co, q, by rw [hs]; rfl, by rw [hs]; exact hinv.own, hinv.qn, hinv.keep⟩
end Go.Proofs.Ythmldeningpjbaa
/- The rules of layer 8 at work: raised, kept. -/
namespace Go.Proofs.Ythmldeningpjbaa
open Go Go.RowKit Sp

theorem win_new (w : World) (wide : Int) (gr : Bool) : Win (w.alloc (.cells #[.int .i64 wide, .int .i64 0, .bool gr, .slice none 0 0, .slice none 0 0] 227)) w.heap.size wide 0 gr [] [w.heap.size] := by
  refine ⟨none, 0, none, 0, [], [], rfl, Keep.refl _ _, heap_alloc_new w _, OwnA.nil _ _, OwnA.nil _ _, by simp, by simp, by simp, by simp, by simp⟩

theorem PolAt.below {w w' : World} {pb : Nat} {p : Pol} (h : PolAt w pb p) (hb : Below w.heap.size w w') : PolAt w' pb p := by
  obtain ⟨A, c, hh, h1, h2, h3⟩ := h
  exact ⟨A, c, (hb.block pb (heap_lt hh)).trans hh, h1, h2, h3.below hb⟩

def raisedPost (w : World) (p : Pol) (days : List Int) (e : Ending) (w' : World) : Prop :=
  ∃ A c q, e = .returned (.slice A days.length c) ∧ OwnA w' 3 A days.length c (ints (raisedS p days)) q ∧ (∀ g ∈ q, w.heap.size ≤ g) ∧ Below w.heap.size w w'

set_option maxHeartbeats 1000000 in
theorem raised_any (pb : Nat) (p : Pol) (A : Option Addr) (c : Nat) (days : List Int) (w : World) (hp : PolAt w pb p) (hh : 1 ≤ p.hold ∧ p.hold ≤ 1000) (hr : Rd w 1 A days.length (ints days)) (hl : days.length ≤ 100000) :
    Calls Try.prog 147 #[.agg #[.pointer (some ⟨pb, 0, none⟩)], .slice A days.length c] w (raisedPost w p days) := by
  have hp0 := hp
  obtain ⟨As, cs, hpb, hnc, hcm, hrs⟩ := hp
  have hlt := heap_lt hpb
  have c1 := cell_of_heap hpb 1
  simp at c1
  obtain ⟨h1, h2⟩ := hh
  have HP := Lib.hid hp0
  clear hpb hnc hcm hrs hp0
  go_enter Try.func147, Try.ntmps147
  go_wp2_with fail
  -- each(days, push)
  have hwin : ∀ wx : World, Win (wx.alloc (.cells #[.int .i64 p.hold, .int .i64 0, .bool false, .slice none 0 0, .slice none 0 0] 227)) wx.heap.size p.hold 0 false [] [wx.heap.size] := fun wx => win_new wx _ _
  refine (each_any (w.heap.size + 1) p.hold false A c days _ (by have := hwin (w.alloc (.cells #[.pointer (some ⟨pb, 0, none⟩)] 217)); simpa using this) h1 h2 ((hr.below ((Below.refl _ _).alloc (Nat.le_refl _) _)).below ((Below.refl _ _).alloc (Nat.le_refl _) _)) (fun h0 b off e => ?_) (by omega)).mono ?_
  · have := hr.lt' h0 e
    omega
  rintro e w2 ⟨Ao, co, q, rfl, hown, hqn, hk2⟩
  rw [slide_length] at hown ⊢
  have s2 := hk2.size
  simp only [World.size_alloc] at hqn s2
  have b2 : Below w.heap.size w w2 := (((Below.refl w.heap.size w).alloc (Nat.le_refl _) _).alloc (by simp) _).trans (hk2.below' (by simp; omega) (by simp))
  have fbox : w2.cell? ⟨w.heap.size, 0, none⟩ = some (.pointer (some ⟨pb, 0, none⟩)) := hk2.cell (by simp) (by simp)
  have P2 := HP.out.below b2
  have c12 : w2.cell? ⟨pb, 1, none⟩ = some (.int .i64 p.hold) := (b2.cell (p := ⟨pb, 1, none⟩) hlt).trans c1
  have HQ := Lib.hid (And.intro hqn (And.intro P2 b2))
  have HPB := Lib.hid hlt
  obtain ⟨sl, hsl⟩ : ∃ sl, sl = slide p.hold false days := ⟨_, rfl⟩
  have hsll : sl.length = days.length := by rw [hsl, slide_length]
  rw [← hsl] at hown
  have HSL := Lib.hid (And.intro hsl hsll)
  obtain ⟨n, hn⟩ : ∃ n, n = days.length := ⟨_, rfl⟩
  have HN := Lib.hid hn
  rw [← hn] at hown hl ⊢
  clear hwin hqn P2 b2 hk2 c1 hsl hsll hn hr hlt
  go_wp2_with fail
  go_loopw [22] (fun i wr => ∃ k : Nat, k ≤ n ∧ i = .int .i64 k ∧ OwnA wr 3 Ao n co (ints (mixN (raisedAt p sl) sl k)) q ∧ Keep q w2 wr)
    (fun i _ => n - (intOf i).toNat)
  case atStart => exact ⟨0, Nat.zero_le _, rfl, by rw [mixN_zero]; exact hown, Keep.refl _ _⟩
  case round =>
    obtain ⟨k, hk, rfl, hownr, hK⟩ := hrel
    by_cases hlt : k < n
    · obtain ⟨g, off, rfl, rfl, hg, hat, hfz⟩ := hownr.some_ (by omega)
      have hgn := HQ.out.1 g (by simp)
      obtain ⟨x, hx⟩ : ∃ x, x = sl.getD k 0 := ⟨_, rfl⟩
      have ck : wr.cell? ⟨g, off + k, none⟩ = some (.int .i64 x) := hat k _ (by
        have h3 := HSL.out.2
        have h4 := HN.out
        have : (mixN (raisedAt p sl) sl k).getD k 0 = sl.getD k 0 := mixN_get _ _ _ (by omega)
        rw [← hx] at this
        have hm := mixN_length (raisedAt p sl) sl k
        simp only [ints, List.getElem?_map]
        rw [List.getD_eq_getElem?_getD] at this
        rw [List.getElem?_eq_getElem (by omega)] at this ⊢
        simpa using this)
      have zk := hfz (off + k)
      have fboxr := hK.cell fbox (by simp; omega)
      have c1r := hK.cell c12 (by have := HPB.out; simp; omega)
      have bB : Below w.heap.size w wr := HQ.out.2.2.trans (hK.below (by have := HQ.out.2.2.size; omega) (fun y hy => by rw [List.mem_singleton.1 hy]; omega))
      have PR := HP.out.below bB
      have HR := Lib.hid (And.intro hownr (And.intro hK PR))
      have HX := Lib.hid hx
      have HH := Lib.hid h1
      clear hownr hK PR hat hfz hx bB fbox c12
      have sev : Calls Try.prog 149 #[.agg #[.pointer (some ⟨pb, 0, none⟩)], .int .i64 (if (k : Int) + 1 < p.hold then 0 else x), .func (.func 150) #[] #[]] wr fun e w' => e = .returned (.int .i64 (raisedAt p sl k)) ∧ Below wr.heap.size wr w' := by
        have := upToUp_any pb p (if (k : Int) + 1 < p.hold then 0 else x) wr HR.out.2.2
        rw [HX.out] at this
        rw [HX.out]
        exact this
      have SEV := Lib.hid sev
      clear sev
      by_cases hh : (k : Int) + 1 < p.hold
      · have hs := SEV.out
        rw [if_pos hh] at hs
        have HS := Lib.hid hs
        clear hs
        go_wp2_with (go_at_call 149; refine HS.out.mono ?_; rintro e w3 ⟨rfl, hB3⟩; have ck3 := (hB3.cell (p := ⟨g, off + k, none⟩) hg).trans ck; have zk3 := (hB3.frozen (p := ⟨g, off + k, none⟩) hg).trans zk; have HB3 := Lib.hid hB3; clear hB3)
        go_roundw
        case rel =>
          have hs := HSL.out.2
          have hl := HN.out
          have h5 := ((HR.out.1.keepS (Keep.of_below (S := []) HB3.out) (by simp)).set_ hlt (.int .i64 (raisedAt p sl k)))
          have h6 : (ints (mixN (raisedAt p sl) sl k)).set k (.int .i64 (raisedAt p sl k)) = ints (mixN (raisedAt p sl) sl (k + 1)) := by
            rw [← mixN_set]; simp [ints]
          rw [h6] at h5
          exact ⟨k + 1, by omega, by go_num, h5, (HR.out.2.1.trans (Keep.of_below (S := []) HB3.out) (by simp)).setCell (.inl (by simp)) _⟩
        case measure => simp [intOf]; omega
      · have hs := SEV.out
        rw [if_neg hh] at hs
        have HS := Lib.hid hs
        clear hs
        go_wp2_with (go_at_call 149; refine HS.out.mono ?_; rintro e w3 ⟨rfl, hB3⟩; have ck3 := (hB3.cell (p := ⟨g, off + k, none⟩) hg).trans ck; have zk3 := (hB3.frozen (p := ⟨g, off + k, none⟩) hg).trans zk; have HB3 := Lib.hid hB3; clear hB3)
        go_roundw
        case rel =>
          have hs := HSL.out.2
          have hl := HN.out
          have h5 := ((HR.out.1.keepS (Keep.of_below (S := []) HB3.out) (by simp)).set_ hlt (.int .i64 (raisedAt p sl k)))
          have h6 : (ints (mixN (raisedAt p sl) sl k)).set k (.int .i64 (raisedAt p sl k)) = ints (mixN (raisedAt p sl) sl (k + 1)) := by
            rw [← mixN_set]; simp [ints]
          rw [h6] at h5
          exact ⟨k + 1, by omega, by go_num, h5, (HR.out.2.1.trans (Keep.of_below (S := []) HB3.out) (by simp)).setCell (.inl (by simp)) _⟩
        case measure => simp [intOf]; omega
    · obtain rfl : k = n := by omega
      have hs := HSL.out.2
      have hl := HN.out
      have hq := HQ.out
      go_wp2_with fail
      go_ret
      rw [show mixN (raisedAt p sl) sl k = raisedS p days from by rw [raisedS, ← HSL.out.1, ← hl, ← hs.trans hl.symm, mixN_all]] at hownr
      refine ⟨Ao, co, q, by rw [← hl]; rfl, by rw [← hl]; exact hownr, fun y hy => by have := hq.1 y hy; omega, hq.2.2.trans (hK.below (by have := hq.2.2.size; omega) (fun y hy => by have := hq.1 y hy; omega))⟩

def keptPost (w : World) (p : Pol) (days : List Int) (e : Ending) (w' : World) : Prop :=
  ∃ A c q, e = .returned (.slice A days.length c) ∧ OwnA w' 3 A days.length c (ints (keptS p days)) q ∧ (∀ g ∈ q, w.heap.size ≤ g) ∧ Below w.heap.size w w'

set_option maxHeartbeats 1000000 in
theorem kept_any (pb : Nat) (p : Pol) (A : Option Addr) (c : Nat) (days : List Int) (w : World) (hp : PolAt w pb p) (hh : 1 ≤ p.calm ∧ p.calm ≤ 1000) (hr : Rd w 1 A days.length (ints days)) (hl : days.length ≤ 100000) :
    Calls Try.prog 148 #[.agg #[.pointer (some ⟨pb, 0, none⟩)], .slice A days.length c] w (keptPost w p days) := by
  have hp0 := hp
  obtain ⟨As, cs, hpb, hnc, hcm, hrs⟩ := hp
  have hlt := heap_lt hpb
  have c1 := cell_of_heap hpb 2
  simp at c1
  obtain ⟨h1, h2⟩ := hh
  have HP := Lib.hid hp0
  clear hpb hnc hcm hrs hp0
  go_enter Try.func148, Try.ntmps148
  go_wp2_with fail
  -- each(days, push)
  have hwin : ∀ wx : World, Win (wx.alloc (.cells #[.int .i64 p.calm, .int .i64 0, .bool true, .slice none 0 0, .slice none 0 0] 227)) wx.heap.size p.calm 0 true [] [wx.heap.size] := fun wx => win_new wx _ _
  refine (each_any (w.heap.size + 1) p.calm true A c days _ (by have := hwin (w.alloc (.cells #[.pointer (some ⟨pb, 0, none⟩)] 217)); simpa using this) h1 h2 ((hr.below ((Below.refl _ _).alloc (Nat.le_refl _) _)).below ((Below.refl _ _).alloc (Nat.le_refl _) _)) (fun h0 b off e => ?_) (by omega)).mono ?_
  · have := hr.lt' h0 e
    omega
  rintro e w2 ⟨Ao, co, q, rfl, hown, hqn, hk2⟩
  rw [slide_length] at hown ⊢
  have s2 := hk2.size
  simp only [World.size_alloc] at hqn s2
  have b2 : Below w.heap.size w w2 := (((Below.refl w.heap.size w).alloc (Nat.le_refl _) _).alloc (by simp) _).trans (hk2.below' (by simp; omega) (by simp))
  have fbox : w2.cell? ⟨w.heap.size, 0, none⟩ = some (.pointer (some ⟨pb, 0, none⟩)) := hk2.cell (by simp) (by simp)
  have P2 := HP.out.below b2
  have c12 : w2.cell? ⟨pb, 2, none⟩ = some (.int .i64 p.calm) := (b2.cell (p := ⟨pb, 2, none⟩) hlt).trans c1
  have HQ := Lib.hid (And.intro hqn (And.intro P2 b2))
  have HPB := Lib.hid hlt
  obtain ⟨sl, hsl⟩ : ∃ sl, sl = slide p.calm true days := ⟨_, rfl⟩
  have hsll : sl.length = days.length := by rw [hsl, slide_length]
  rw [← hsl] at hown
  have HSL := Lib.hid (And.intro hsl hsll)
  obtain ⟨n, hn⟩ : ∃ n, n = days.length := ⟨_, rfl⟩
  have HN := Lib.hid hn
  rw [← hn] at hown hl ⊢
  clear hwin hqn P2 b2 hk2 c1 hsl hsll hn hr hlt
  go_wp2_with fail
  go_loopw [22] (fun i wr => ∃ k : Nat, k ≤ n ∧ i = .int .i64 k ∧ OwnA wr 3 Ao n co (ints (mixN (keptAt p sl) sl k)) q ∧ Keep q w2 wr)
    (fun i _ => n - (intOf i).toNat)
  case atStart => exact ⟨0, Nat.zero_le _, rfl, by rw [mixN_zero]; exact hown, Keep.refl _ _⟩
  case round =>
    obtain ⟨k, hk, rfl, hownr, hK⟩ := hrel
    by_cases hlt : k < n
    · obtain ⟨g, off, rfl, rfl, hg, hat, hfz⟩ := hownr.some_ (by omega)
      have hgn := HQ.out.1 g (by simp)
      obtain ⟨x, hx⟩ : ∃ x, x = sl.getD k 0 := ⟨_, rfl⟩
      have ck : wr.cell? ⟨g, off + k, none⟩ = some (.int .i64 x) := hat k _ (by
        have h3 := HSL.out.2
        have h4 := HN.out
        have : (mixN (keptAt p sl) sl k).getD k 0 = sl.getD k 0 := mixN_get _ _ _ (by omega)
        rw [← hx] at this
        have hm := mixN_length (keptAt p sl) sl k
        simp only [ints, List.getElem?_map]
        rw [List.getD_eq_getElem?_getD] at this
        rw [List.getElem?_eq_getElem (by omega)] at this ⊢
        simpa using this)
      have zk := hfz (off + k)
      have fboxr := hK.cell fbox (by simp; omega)
      have c1r := hK.cell c12 (by have := HPB.out; simp; omega)
      have bB : Below w.heap.size w wr := HQ.out.2.2.trans (hK.below (by have := HQ.out.2.2.size; omega) (fun y hy => by rw [List.mem_singleton.1 hy]; omega))
      have PR := HP.out.below bB
      have HR := Lib.hid (And.intro hownr (And.intro hK PR))
      have HX := Lib.hid hx
      have HH := Lib.hid h1
      clear hownr hK PR hat hfz hx bB fbox c12
      have sev : Calls Try.prog 149 #[.agg #[.pointer (some ⟨pb, 0, none⟩)], .int .i64 x, .func (.func 151) #[] #[]] wr fun e w' => e = .returned (.int .i64 (keptAt p sl k)) ∧ Below wr.heap.size wr w' := by
        have := upToDn_any pb p x wr HR.out.2.2
        rw [HX.out] at this
        rw [HX.out]
        exact this
      have HS := Lib.hid sev
      clear sev
      go_wp2_with (go_at_call 149; refine HS.out.mono ?_; rintro e w3 ⟨rfl, hB3⟩; have ck3 := (hB3.cell (p := ⟨g, off + k, none⟩) hg).trans ck; have zk3 := (hB3.frozen (p := ⟨g, off + k, none⟩) hg).trans zk; have HB3 := Lib.hid hB3; clear hB3)
      go_roundw
      case rel =>
        have hs := HSL.out.2
        have hl := HN.out
        have h5 := ((HR.out.1.keepS (Keep.of_below (S := []) HB3.out) (by simp)).set_ hlt (.int .i64 (keptAt p sl k)))
        have h6 : (ints (mixN (keptAt p sl) sl k)).set k (.int .i64 (keptAt p sl k)) = ints (mixN (keptAt p sl) sl (k + 1)) := by
          rw [← mixN_set]; simp [ints]
        rw [h6] at h5
        exact ⟨k + 1, by omega, by go_num, h5, (HR.out.2.1.trans (Keep.of_below (S := []) HB3.out) (by simp)).setCell (.inl (by simp)) _⟩
      case measure => simp [intOf]; omega
    · obtain rfl : k = n := by omega
      have hs := HSL.out.2
      have hl := HN.out
      have hq := HQ.out
      go_wp2_with fail
      go_ret
      rw [show mixN (keptAt p sl) sl k = keptS p days from by rw [keptS, ← HSL.out.1, ← hl, ← hs.trans hl.symm, mixN_all]] at hownr
      refine ⟨Ao, co, q, by rw [← hl]; rfl, by rw [← hl]; exact hownr, fun y hy => by have := hq.1 y hy; omega, hq.2.2.trans (hK.below (by have := hq.2.2.size; omega) (fun y hy => by have := hq.1 y hy; omega))⟩
end Go.Proofs.Ythmldeningpjbaa
/- rules.decided -/
namespace Go.Proofs.Ythmldeningpjbaa
open Go Go.RowKit Sp

def decidedPost (w : World) (p : Pol) (days : List Int) (e : Ending) (w' : World) : Prop :=
  ∃ A c q, e = .returned (.slice A days.length c) ∧ OwnA w' 3 A days.length c (ints (decidedS p days)) q ∧ (∀ g ∈ q, w.heap.size ≤ g) ∧ Below w.heap.size w w'

set_option maxHeartbeats 1000000 in
theorem decided_any (pb : Nat) (p : Pol) (A : Option Addr) (c : Nat) (days : List Int) (w : World) (hp : PolAt w pb p) (hh : 1 ≤ p.hold ∧ p.hold ≤ 1000) (hca : 1 ≤ p.calm ∧ p.calm ≤ 1000) (hr : Rd w 1 A days.length (ints days)) (hl : days.length ≤ 100000) :
    Calls Try.prog 145 #[.agg #[.pointer (some ⟨pb, 0, none⟩)], .slice A days.length c] w (decidedPost w p days) := by
  obtain ⟨i0, hi, hz0, hz1, hz2⟩ := info_parts info_int
  have HP := Lib.hid (And.intro hp (And.intro hh (And.intro hca hr)))
  clear hp hh hca hr
  go_enter Try.func145, Try.ntmps145
  go_upto_region 1 with fail
  obtain ⟨W, hW⟩ : ∃ W, W = w.alloc (.cells #[.pointer (some ⟨pb, 0, none⟩)] 217) := ⟨_, rfl⟩
  obtain ⟨bx, hbx⟩ : ∃ bx, bx = w.heap.size := ⟨_, rfl⟩
  have bW : Below w.heap.size w W := by rw [hW]; exact (Below.refl _ _).alloc (Nat.le_refl _) _
  have fb : W.cell? ⟨bx, 0, none⟩ = some (.pointer (some ⟨pb, 0, none⟩)) := by rw [hW, hbx]; simp [World.cell?_alloc_new]
  have PW : PolAt W.drew pb p := HP.out.1.below bW.drew
  have RW : Rd W.drew 1 A days.length (ints days) := HP.out.2.2.2.below bW.drew
  have sW : bx < W.heap.size := by rw [hW, hbx]; simp
  rw [← hW, ← hbx]
  have HB := Lib.hid (And.intro hbx (And.intro bW (And.intro PW RW)))
  clear hW hbx bW PW RW
  go_region_held3 (fun w' => w'.cell? ⟨bx, 0, none⟩ = some (.pointer (some ⟨pb, 0, none⟩))) (first | assumption | simp [*])
    (first
      | (go_at_call 147
         have hc := raised_any pb p A c days W.drew HB.out.2.2.1 HP.out.2.1 HB.out.2.2.2 hl
         refine hc.mono ?_
         rintro e w1 ⟨A1, c1, q1, rfl, o1, n1, b1⟩
         have fb1 : w1.cell? ⟨bx, 0, none⟩ = some (.pointer (some ⟨pb, 0, none⟩)) := (b1.cell (p := ⟨bx, 0, none⟩) sW).trans fb
         have H1 := Lib.hid (And.intro o1 (And.intro n1 b1))
         clear o1 n1 b1 hc)
      | (go_at_call 148
         have hc := kept_any pb p A c days w1 (HB.out.2.2.1.below H1.out.2.2) HP.out.2.2.1 (HB.out.2.2.2.below H1.out.2.2) hl
         refine hc.mono ?_
         rintro e w2 ⟨A2, c2, q2, rfl, o2, n2, b2⟩
         have fb2 : w2.cell? ⟨bx, 0, none⟩ = some (.pointer (some ⟨pb, 0, none⟩)) := (b2.cell (p := ⟨bx, 0, none⟩) (Nat.lt_of_lt_of_le sW H1.out.2.2.size)).trans fb1
         have H2 := Lib.hid (And.intro o2 (And.intro n2 b2))
         clear o2 n2 b2 hc))
  obtain ⟨u, hu⟩ : ∃ u, u = raisedS p days := ⟨_, rfl⟩
  obtain ⟨v, hv⟩ : ∃ v, v = keptS p days := ⟨_, rfl⟩
  have hul : u.length = days.length := by rw [hu, raisedS_length]
  have hvl : v.length = days.length := by rw [hv, keptS_length]
  have R1 : Rd w2 1 A1 days.length (ints u) := by have := H1.out.1.rd.below H2.out.2.2; rwa [← hu] at this
  have R2 : Rd w2 1 A2 days.length (ints v) := by have := H2.out.1.rd; rwa [← hv] at this
  have b2 : Below w.heap.size w w2 := (HB.out.2.1.drew.trans (H1.out.2.2.mono HB.out.2.1.size)).trans (H2.out.2.2.mono (by have := HB.out.2.1.size; have := H1.out.2.2.size; simp at this; omega))
  have HU := Lib.hid (And.intro hu (And.intro hv (And.intro hul (And.intro hvl b2))))
  clear hu hv hul hvl b2 fb2 fb1 fb sW
  go_wp2_with fail
  go_loopw [7, 8, 18] (fun bf o i wr => ∃ (k : Nat) (Ao : Option Addr) (co : Nat) (q : List Nat), k ≤ days.length ∧ i = .int .i64 k ∧ bf = .int .i64 (decN u v k) ∧ o = .slice Ao k co ∧ OwnA wr 3 Ao k co (ints (decL u v k)) q ∧ (∀ g ∈ q, w2.heap.size ≤ g) ∧ Keep [] w2 wr)
    (fun _ _ i _ => days.length - (intOf i).toNat)
  case atStart => exact ⟨0, none, 0, [], Nat.zero_le _, rfl, rfl, rfl, OwnA.nil _ _, by simp, Keep.refl _ _⟩
  case round =>
    obtain ⟨k, Ao, co, q, hk, rfl, rfl, rfl, hown, hq, hK⟩ := hrel
    by_cases hlt : k < days.length
    · obtain ⟨b1, o1, rfl, hb1, hc1⟩ := R1.2 (by omega)
      obtain ⟨b2, o2, rfl, hb2, hc2⟩ := R2.2 (by omega)
      have c1 := hK.cell (hc1 k (.int .i64 (u.getD k 0)) (ints_get (by rw [HU.out.2.2.1]; exact hlt))) (by simp)
      have c2 := hK.cell (hc2 k (.int .i64 (v.getD k 0)) (ints_get (by rw [HU.out.2.2.2.1]; exact hlt))) (by simp)
      generalize hx : u.getD k 0 = x at c1
      generalize hy : v.getD k 0 = y at c2
      generalize hz : decN u v k = z
      have HX := Lib.hid (And.intro hx (And.intro hy hz))
      have HO := Lib.hid (And.intro hown (And.intro hq hK))
      clear hx hy hz hown hq hK hc1 hc2
      go_upto_region 7 with fail
      go_quiet (fail)
      go_upto_region 8 with fail
      generalize hm : (if x < if z < y then z else y then if z < y then z else y else x) = m
      have hm' : m = max x (min y z) := by rw [← hm]; simp only [Int.max_def, Int.min_def]; split <;> split <;> split <;> (try split) <;> omega
      have HM := Lib.hid hm'
      clear hm hm'
      go_wp2_with (at_builtin
                   refine wpList_append_A rfl (.tmp 32) (.tmp 34) 33 rfl i0 _ 8 Try.underlying33 hi hz0 hz1 hz2 rfl (A := Ao) (n := k) (c := co) (xs := ints (decL u v k)) (fp := q) (by simp [Act.eval]) _ (by simp [Act.eval]) (.int .i64 m) (((HO.out.1.drewN _).alloc _)) (cell_new_one _ _ _) rfl (by omega) (by omega) ?_
                   intro g off' c' w3 h1 h2 h3 h4
                   have HQ := Lib.hid (And.intro h1 (And.intro h2 h4))
                   clear h1 h2 h3 h4)
      go_roundw
      case rel =>
        obtain ⟨h1, h2, h4⟩ := HQ.out
        obtain ⟨hown, hq, hK⟩ := HO.out
        obtain ⟨hx, hy, hz⟩ := HX.out
        have hd : decN u v (k + 1) = m := by rw [HM.out, ← hx, ← hy, ← hz]; rfl
        have hkz := hK.size
        refine ⟨k + 1, some ⟨g, off', none⟩, c', [g], by omega, by go_num, by rw [hd], rfl, by rw [decL_succ, hd]; simpa [ints] using h1, ?_, ((hK.drewN _).alloc _).trans h4 (fun y hy => .inr (hq y hy))⟩
        intro y hy
        rw [List.mem_singleton.1 hy]
        rcases h2 with h2 | h2
        · exact hq _ h2
        · simp at h2; omega
      case measure => simp [intOf]; omega
    · obtain rfl : k = days.length := by omega
      go_wp2_with fail
      go_ret
      obtain ⟨hu, hv, hul, hvl, b2⟩ := HU.out
      have hbw := b2.size
      refine ⟨Ao, co, q, rfl, ?_, fun y hy => by have := hq y hy; omega, b2.trans (hK.below (by omega) (by simp))⟩
      rw [decidedS, ← hu, ← hv]
      exact hown
end Go.Proofs.Ythmldeningpjbaa
/- rules.force -/
namespace Go.Proofs.Ythmldeningpjbaa
open Go Go.RowKit Sp

/-- a slice of numbers that is only read -/
def IntsAt (w : World) (A : Option Addr) (c : Nat) (l : List Int) : Prop := Rd w 1 A l.length (ints l) ∧ l.length ≤ c ∧ c ≤ 9223372036854775807

def forcePost (w : World) (p : Pol) (days : List Int) (e : Ending) (w' : World) : Prop :=
  ∃ A c, e = .returned (.slice A days.length c) ∧ IntsAt w' A c (forceS p days) ∧ Below w.heap.size w w'

/-- the same, and that the result is new -/
def forceNew (w : World) (p : Pol) (days : List Int) (e : Ending) (w' : World) : Prop :=
  ∃ A c, e = .returned (.slice A days.length c) ∧ IntsAt w' A c (forceS p days) ∧ Below w.heap.size w w' ∧ (0 < days.length → ∃ g off cur, A = some ⟨g, off, none⟩ ∧ w.heap.size ≤ g ∧ w'.heap[g]? = some (.cells cur 3 (0, 0)))

theorem ints_one (l : List Int) : ∀ u ∈ ints l, u.oneCell' = true := by simp [ints, Value.oneCell']
theorem ints_length (l : List Int) : (ints l).length = l.length := by simp [ints]
theorem ints_append (l m : List Int) : ints l ++ ints m = ints (l ++ m) := by simp [ints]

theorem rd_drop {w : World} {A : Option Addr} {N m : Nat} {xs : List Value} (h : Rd w 1 A (N + m) xs) : Rd w 1 (A.map fun x => x.add N) m (xs.drop N) := by
  refine ⟨by rw [List.length_drop, h.1]; omega, fun h0 => ?_⟩
  obtain ⟨b, off, rfl, hb, hc⟩ := h.2 (by omega)
  refine ⟨b, off + N, by by_cases hN : N = 0 <;> simp [Addr.add, hN], hb, fun j u hu => ?_⟩
  rw [List.getElem?_drop] at hu
  have := hc _ _ hu
  rwa [show off + (N + j) = off + N + j from by omega] at this

theorem force_end {w w3 : World} {p : Pol} {days : List Int} {A3 : Option Addr} {N c3 : Nat} {q : List Nat} {B : Option Addr} {d : Nat}
    (ho : OwnA w3 3 A3 (N + days.length) c3 (ints (slide ((N : Int) + 1) false (List.replicate N 0 ++ decidedS p days))) q) (hN : p.notice = (N : Int)) (hB : Below w.heap.size w w3) (hl : days.length ≤ 100000) (hq : ∀ g ∈ q, w.heap.size ≤ g)
    (hv : (c3 = N ∧ B = A3 ∧ d = 0) ∨ (B = A3.map (fun x => x.add N) ∧ d = c3 - N)) : forceNew w p days (.returned (.slice B days.length d)) w3 := by
  have hge := ho.ge
  have hf : forceS p days = (slide ((N : Int) + 1) false (List.replicate N 0 ++ decidedS p days)).drop N := by rw [forceS, hN]; simp
  have hfl := forceS_length p days
  have hrd := rd_drop ho.rd
  have hcm : c3 ≤ 9223372036854775807 := by
    rcases ho.2 with ⟨_, _, rfl, _⟩ | ⟨g, off, cur, _, _, _, _, h, _⟩
    · omega
    · exact h
  have hints : (ints (slide ((N : Int) + 1) false (List.replicate N 0 ++ decidedS p days))).drop N = ints (forceS p days) := by rw [hf]; simp [ints]
  rw [hints] at hrd
  rcases hv with ⟨rfl, rfl, rfl⟩ | ⟨rfl, rfl⟩
  · have h0 : days.length = 0 := by omega
    refine ⟨B, 0, rfl, ⟨?_, by omega, by omega⟩, hB, fun h => absurd h (by omega)⟩
    rw [hfl, h0]
    have : ints (forceS p days) = [] := List.eq_nil_of_length_eq_zero (by rw [ints_length, hfl, h0])
    rw [this]
    exact Rd.nil _ _ _
  · refine ⟨_, _, rfl, ⟨by rw [hfl]; exact hrd, by omega, by omega⟩, hB, fun h0 => ?_⟩
    rcases ho.2 with ⟨_, h1, _⟩ | ⟨g, off, cur, rfl, rfl, hh, _⟩
    · omega
    · refine ⟨g, off + N, cur, ?_, hq g (by simp), hh⟩
      by_cases hN0 : N = 0 <;> simp [Addr.add, hN0]

set_option maxRecDepth 100000 in
set_option maxHeartbeats 2000000 in
theorem force_new (pb : Nat) (p : Pol) (A : Option Addr) (c : Nat) (days : List Int) (w : World) (hp : PolAt w pb p) (hh : 1 ≤ p.hold ∧ p.hold ≤ 1000) (hca : 1 ≤ p.calm ∧ p.calm ≤ 1000) (hno : 0 ≤ p.notice ∧ p.notice ≤ 900) (hr : Rd w 1 A days.length (ints days)) (hl : days.length ≤ 100000) :
    Calls Try.prog 142 #[.agg #[.pointer (some ⟨pb, 0, none⟩)], .slice A days.length c] w (forceNew w p days) := by
  obtain ⟨i0, hi, hz0, hz1, hz2⟩ := info_parts info_int
  obtain ⟨N, hN⟩ : ∃ N : Nat, p.notice = (N : Int) := ⟨p.notice.toNat, by omega⟩
  have hN9 : N ≤ 900 := by omega
  have hmk := fun w => run_make_ints (P := Try.prog) 33 i0 Try.underlying33 hi hz0 hz1 hz2 N (by omega) w
  have hp0 := hp
  obtain ⟨As, cs, hpb, _⟩ := hp0
  have hlt := heap_lt hpb
  have c3 := cell_of_heap hpb 3
  simp [hN] at c3
  have HP := Lib.hid (And.intro hp (And.intro hh (And.intro hca (And.intro hr (And.intro hN hpb)))))
  clear hp hh hca hr hno hN hpb
  go_enter Try.func142, Try.ntmps142
  go_upto_region 2 with fail
  obtain ⟨bx, hbx⟩ : ∃ bx, bx = w.heap.size := ⟨_, rfl⟩
  obtain ⟨W, hW⟩ : ∃ W, W = (w.alloc (.cells #[.pointer (some ⟨pb, 0, none⟩)] 217)).alloc (.cells #[.int .i64 ((N : Int) + 1), .int .i64 0, .bool false, .slice none 0 0, .slice none 0 0] 227) := ⟨_, rfl⟩
  have hwW : Win W (bx + 1) ((N : Int) + 1) 0 false [] [bx + 1] := by
    have := win_new (w.alloc (.cells #[.pointer (some ⟨pb, 0, none⟩)] 217)) ((N : Int) + 1) false
    rw [hW, hbx]
    simpa using this
  have bW : Below w.heap.size w W := by rw [hW]; exact ((Below.refl _ _).alloc (Nat.le_refl _) _).alloc (by simp) _
  have sW : W.heap.size = bx + 2 := by rw [hW, hbx]; simp
  have fb : W.cell? ⟨bx, 0, none⟩ = some (.pointer (some ⟨pb, 0, none⟩)) := by
    rw [hW, hbx, World.cell?_alloc_lt _ _ _ (by simp)]
    simp [World.cell?_alloc_new]
  have f3 : W.cell? ⟨pb, 3, none⟩ = some (.int .i64 (N : Int)) := (bW.cell (p := ⟨pb, 3, none⟩) hlt).trans c3
  have hpbx : pb < bx := by rw [hbx]; exact hlt
  have hbs := hbx
  rw [← hW, ← hbx]
  have HW := Lib.hid (And.intro hwW (And.intro bW (And.intro sW hbs)))
  have hsz : bx + 2 ≤ W.heap.size := by omega
  clear hW hbx hbs hwW bW sW c3 hlt
  go_region_held3 (fun w' => w'.cell? ⟨bx, 0, none⟩ = some (.pointer (some ⟨pb, 0, none⟩)) ∧ w'.cell? ⟨pb, 3, none⟩ = some (.int .i64 (N : Int))) (first | exact ⟨fb3, f33⟩ | exact ⟨fb, f3⟩ | exact ⟨fb1, f31⟩ | exact ⟨fb2, f32⟩ | exact ⟨(World.cell?_alloc_lt W _ ⟨bx, 0, none⟩ (by show bx < W.heap.size; omega)).trans fb, (World.cell?_alloc_lt W _ ⟨pb, 3, none⟩ (by show pb < W.heap.size; omega)).trans f3⟩ | exact ⟨(World.cell?_alloc_lt w1 _ ⟨bx, 0, none⟩ (by show bx < w1.heap.size; omega)).trans fb1, (World.cell?_alloc_lt w1 _ ⟨pb, 3, none⟩ (by show pb < w1.heap.size; omega)).trans f31⟩)
    (first
      | (go_at_call 145
         refine (decided_any pb p A c days W.drew (HP.out.1.below HW.out.2.1.drew) HP.out.2.1 HP.out.2.2.1 (HP.out.2.2.2.1.below HW.out.2.1.drew) hl).mono ?_
         rintro e w1 ⟨A1, c1, q1, rfl, o1, n1, b1⟩
         have fb1 : w1.cell? ⟨bx, 0, none⟩ = some (.pointer (some ⟨pb, 0, none⟩)) := (b1.cell (p := ⟨bx, 0, none⟩) (by show bx < W.heap.size; omega)).trans fb
         have f31 : w1.cell? ⟨pb, 3, none⟩ = some (.int .i64 (N : Int)) := (b1.cell (p := ⟨pb, 3, none⟩) (by show pb < W.heap.size; omega)).trans f3
         have hs1 : bx + 2 ≤ w1.heap.size := Nat.le_trans hsz b1.size
         have H1 := Lib.hid (And.intro o1 (And.intro n1 b1))
         clear o1 n1 b1)
      | (go_at_call 145
         refine (decided_any pb p A c days (W.alloc (.cells (noughts N) 3)).drew (HP.out.1.below (HW.out.2.1.alloc HW.out.2.1.size _).drew) HP.out.2.1 HP.out.2.2.1 (HP.out.2.2.2.1.below (HW.out.2.1.alloc HW.out.2.1.size _).drew) hl).mono ?_
         rintro e w1 ⟨A1, c1, q1, rfl, o1, n1, b1⟩
         have fb1 : w1.cell? ⟨bx, 0, none⟩ = some (.pointer (some ⟨pb, 0, none⟩)) := (b1.cell (p := ⟨bx, 0, none⟩) (by simp; omega)).trans ((World.cell?_alloc_lt W _ ⟨bx, 0, none⟩ (by show bx < W.heap.size; omega)).trans fb)
         have f31 : w1.cell? ⟨pb, 3, none⟩ = some (.int .i64 (N : Int)) := (b1.cell (p := ⟨pb, 3, none⟩) (by simp; omega)).trans ((World.cell?_alloc_lt W _ ⟨pb, 3, none⟩ (by show pb < W.heap.size; omega)).trans f3)
         have hs1 : bx + 2 ≤ w1.heap.size := Nat.le_trans (by simp; omega) b1.size
         have KM : Keep [] (W.alloc (.cells (noughts N) 3)) w1 := (Keep.refl [] _).drew.trans (Keep.of_below (S := []) b1) (by simp)
         have HM := Lib.hid KM
         have H1 := Lib.hid (And.intro o1 (And.intro n1 b1))
         clear o1 n1 b1 KM)
      | (refine step_append_As rfl (.tmp 20) (.tmp 23) 33 rfl i0 _ 8 Try.underlying33 hi hz0 hz1 hz2 rfl (A := some ⟨W.heap.size, 0, none⟩) (n := N) (c := N) (B := A1) (m := days.length) (d := c1) (xs := List.replicate N (.int .i64 0)) (fp := [W.heap.size]) (ys := ints (decidedS p days)) (by simp [Act.eval]) (by simp [Act.eval]) ((OwnA.made W 3 N (by omega)).keepS HM.out (by simp)) H1.out.1.rd (ints_one _) (by omega) (by omega) ?_
         intro A2 c2 w2 fp2 h1 h2 h3
         have K2 : Keep [] W w2 := (((Keep.refl [] W).alloc _).trans HM.out (by simp)).trans h3 (fun y hy => .inr (by rw [List.mem_singleton.1 hy]; exact Nat.le_refl _))
         have fb2 := K2.cell fb (by simp)
         have f32 := K2.cell f3 (by simp)
         have g2 : ∀ g ∈ fp2, bx + 2 ≤ g := fun g hg => by
           rcases h2 g hg with h4 | h4
           · rw [List.mem_singleton.1 h4]; exact hsz
           · omega
         have H2 := Lib.hid (And.intro h1 (And.intro K2 g2))
         clear h1 h2 h3 K2 g2)
      | (refine step_append_As rfl (.tmp 20) (.tmp 23) 33 rfl i0 _ 8 Try.underlying33 hi hz0 hz1 hz2 rfl (A := some ⟨w1.heap.size, 0, none⟩) (n := N) (c := N) (B := A1) (m := days.length) (d := c1) (xs := List.replicate N (.int .i64 0)) (fp := [w1.heap.size]) (ys := ints (decidedS p days)) (by simp [Act.eval]) (by simp [Act.eval]) (OwnA.made w1 3 N (by omega)) (H1.out.1.rd.below ((Below.refl _ _).alloc (Nat.le_refl _) _)) (ints_one _) (by omega) (by omega) ?_
         intro A2 c2 w2 fp2 h1 h2 h3
         have K2 : Keep [] W w2 := (((Keep.refl [] W).drew.trans (Keep.of_below (S := []) H1.out.2.2) (by simp)).alloc _).trans h3 (fun y hy => .inr (by rw [List.mem_singleton.1 hy]; exact H1.out.2.2.size))
         have fb2 := K2.cell fb (by simp)
         have f32 := K2.cell f3 (by simp)
         have g2 : ∀ g ∈ fp2, bx + 2 ≤ g := fun g hg => by
           rcases h2 g hg with h4 | h4
           · rw [List.mem_singleton.1 h4]; exact hs1
           · simp at h4; omega
         have H2 := Lib.hid (And.intro h1 (And.intro K2 g2))
         clear h1 h2 h3 K2 g2)
      | (go_at_call 144
         have hL : (List.replicate N (0 : Int) ++ decidedS p days).length = N + days.length := by simp [decidedS_length]
         have hc := each_any (bx + 1) ((N : Int) + 1) false A2 c2 (List.replicate N (0 : Int) ++ decidedS p days) w2 (HW.out.1.keepS H2.out.2.1 (by simp)) (by omega) (by omega) (by have := H2.out.1.rd; rw [hL]; simpa [ints] using this) (fun h0 b off e => by have := H2.out.2.2 b (H2.out.1.mem_ (by rw [← hL]; exact h0) e); omega) (by rw [hL]; omega)
         rw [hL] at hc
         refine hc.mono ?_
         have hSL : (slide ((N : Int) + 1) false (List.replicate N (0 : Int) ++ decidedS p days)).length = N + days.length := by rw [slide_length, hL]
         rintro e w3 ⟨A3, c3, q3, he, o3, n3, k3⟩
         rw [hSL] at he o3
         subst he
         have K3 : Keep [bx + 1] W w3 := (H2.out.2.1.mono (S' := [bx + 1]) (by simp)).trans k3 (by simp)
         have fb3 := K3.cell fb (by simp)
         have f33 := K3.cell f3 (by simp; omega)
         have hq3 : ∀ g ∈ q3, w.heap.size ≤ g := fun g hg => Nat.le_trans (Nat.le_trans HW.out.2.1.size H2.out.2.1.size) (n3 g hg)
         have H3 := Lib.hid (And.intro o3 (And.intro K3 hq3))
         clear o3 n3 k3 K3 hq3 hc hL hSL))
  all_goals go_wp2_with fail
  all_goals go_ret
  all_goals (have hB : Below w.heap.size w w3 := HW.out.2.1.trans (H3.out.2.1.below (by have := HW.out.2.1.size; omega) (by simp; have := HW.out.2.2.2; omega)))
  all_goals first | exact force_end H3.out.1 HP.out.2.2.2.2.1 hB hl H3.out.2.2 (.inr ⟨rfl, rfl⟩) | exact force_end H3.out.1 HP.out.2.2.2.2.1 hB hl H3.out.2.2 (.inl ⟨by first | assumption | (symm; assumption), rfl, rfl⟩)

theorem force_any (pb : Nat) (p : Pol) (A : Option Addr) (c : Nat) (days : List Int) (w : World) (hp : PolAt w pb p) (hh : 1 ≤ p.hold ∧ p.hold ≤ 1000) (hca : 1 ≤ p.calm ∧ p.calm ≤ 1000) (hno : 0 ≤ p.notice ∧ p.notice ≤ 900) (hr : Rd w 1 A days.length (ints days)) (hl : days.length ≤ 100000) :
    Calls Try.prog 142 #[.agg #[.pointer (some ⟨pb, 0, none⟩)], .slice A days.length c] w (forcePost w p days) :=
  (force_new pb p A c days w hp hh hca hno hr hl).mono fun _ _ ⟨A, c, h1, h2, h3, _⟩ => ⟨A, c, h1, h2, h3⟩
end Go.Proofs.Ythmldeningpjbaa
