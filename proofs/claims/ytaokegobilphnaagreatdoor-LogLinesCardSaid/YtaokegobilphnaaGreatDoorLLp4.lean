/- polynyaref13: feeds, Checked, Inside, Content; log: Checked, content, Content -/
import Derived.Test.YtaokegobilphnaaGreatDoorLLp3
import Derived.Test.YtaokegobilphnaaGreatDoorLLp1
import Derived.WalkKit
set_option linter.unusedVariables false
set_option linter.unusedSimpArgs false
namespace Go.Proofs.YtaokegobilphnaaGreatDoor
open Go Go.RowKit Sp Lg
set_option linter.unusedVariables false
set_option linter.unusedSimpArgs false

theorem count_next {s : ByteArray} {k : Nat} (hk : k < s.size) (c : UInt8) : (s.data.toList.take (k + 1)).count c = (s.data.toList.take k).count c + if s[k] = c then 1 else 0 := by
  have hl : k < s.data.toList.length := by rw [Array.length_toList]; exact hk
  rw [List.take_succ_eq_append_getElem hl, List.count_append]
  have e : s.data.toList[k] = s[k] := by rw [Array.getElem_toList]; rfl
  rw [e]
  simp [List.count_cons, List.count_nil]
theorem u8_eq {b : UInt8} {n : Nat} (h : n < 256) : ((b.toNat : Int) == (n : Int)) = decide (b = UInt8.ofNat n) := by
  rw [Bool.eq_iff_iff, beq_iff_eq, decide_eq_true_eq]
  constructor
  · intro e
    apply UInt8.toNat_inj.1
    rw [UInt8.toNat_ofNat_of_lt' h]; omega
  · rintro rfl
    rw [UInt8.toNat_ofNat_of_lt' h]
set_option maxRecDepth 100000 in
set_option maxHeartbeats 4000000 in
theorem rFeeds_any (s : ByteArray) (w : World) (hs : s.size ≤ 1000000) :
    Calls Tryz.prog 78 #[.string s] w fun e w' => e = .returned (.int .i64 (s.data.toList.count 10)) ∧ w = w' := by
  go_enter Tryz.func78, Tryz.ntmps78
  go_wp2_with fail
  go_loopg [3, 4] s.size (fun g n i wr => ∃ k : Nat, g + k = s.size ∧ i = .int .i64 k ∧ n = .int .i64 ((s.data.toList.take k).count 10) ∧ w = wr)
  case atStart => exact ⟨0, rfl, rfl, rfl, rfl⟩
  case round =>
    obtain ⟨k, hk, rfl, rfl, rfl⟩ := hrel
    by_cases hlt : k < s.size
    · have hc := count_next hlt 10
      have hcl : (s.data.toList.take k).count 10 ≤ k := Nat.le_trans List.count_le_length (by simp; omega)
      obtain ⟨n, hn⟩ : ∃ n, n = (s.data.toList.take k).count 10 := ⟨_, rfl⟩
      rw [← hn] at hc hcl ⊢
      have HN := Lib.hid hc
      clear hc hn
      by_cases hb : s[k] = 10
      · have hb2 : ((s[k].toNat : Int) == 10) = true := by rw [hb]; rfl
        have HB := Lib.hid hb
        clear hb
        go_wp2_with fail
        go_roundg (gk - 1)
        case measure => omega
        case rel => exact ⟨k + 1, by omega, by go_num, by rw [HN.out, if_pos HB.out]; simp, rfl⟩
      · have hb2 : ((s[k].toNat : Int) == 10) = false := by
          rw [beq_eq_false_iff_ne]; intro e; exact hb (UInt8.toNat_inj.1 (by have : (10 : UInt8).toNat = 10 := rfl; omega))
        have HB := Lib.hid hb
        clear hb
        go_wp2_with fail
        go_roundg (gk - 1)
        case measure => omega
        case rel => exact ⟨k + 1, by omega, by go_num, by rw [HN.out, if_neg HB.out]; simp, rfl⟩
    · obtain rfl : k = s.size := by omega
      rw [List.take_of_length_le (by rw [Array.length_toList]; exact Nat.le_refl _)]
      obtain ⟨n, hn⟩ : ∃ n, n = s.data.toList.count 10 := ⟨_, rfl⟩
      rw [← hn]
      have HN := Lib.hid hn
      clear hn
      go_wp2_with fail
      go_ret
      exact ⟨by rw [← HN.out]; rfl, rfl⟩
/-- Checked's answer -/
def lgChkE (s : By) : Int := if 0 < s.count 10 then 3 else if 250 < s.length then 2 else 0
def lgChkV (s : By) : By := if lgChkE s = 0 then whole s else []
def LgChkPost (w : World) (s : By) (e : Ending) (w' : World) : Prop := e = .returned (.tuple #[.string (bs (lgChkV s)), .int .i64 (lgChkE s)]) ∧ Below w.heap.size w w'
set_option maxRecDepth 100000 in
set_option maxHeartbeats 4000000 in
theorem rChecked_any (s : ByteArray) (w : World) (hs : s.size ≤ 1000000) :
    Calls Tryz.prog 21 #[.string s] w (LgChkPost w s.data.toList) := by
  obtain ⟨n, hn⟩ : ∃ n, n = s.data.toList.count 10 := ⟨_, rfl⟩
  have kf := rFeeds_any s w hs
  have kw := rWhole_any s w hs
  rw [← hn] at kf
  have hlen : s.data.toList.length = s.size := Array.length_toList
  have hE : lgChkE s.data.toList = if 0 < n then 3 else if 250 < s.size then 2 else 0 := by unfold lgChkE; rw [← hn, hlen]
  have H := Lib.hid (And.intro kf (And.intro kw hE))
  clear kf kw hE hlen hn
  go_enter Tryz.func21, Tryz.ntmps21
  by_cases h1 : 0 < n
  · go_wp2_with (go_at_call 78; refine H.out.1.mono ?_; rintro e w1 ⟨rfl, rfl⟩)
    go_ret2
    have e1 : lgChkE s.data.toList = 3 := by rw [H.out.2.2, if_pos h1]
    exact ⟨by unfold lgChkV; rw [e1]; rfl, Below.refl _ _⟩
  · by_cases h2 : 250 < s.size
    · go_wp2_with (go_at_call 78; refine H.out.1.mono ?_; rintro e w1 ⟨rfl, rfl⟩)
      go_ret2
      have e1 : lgChkE s.data.toList = 2 := by rw [H.out.2.2, if_neg h1, if_pos h2]
      exact ⟨by unfold lgChkV; rw [e1]; rfl, Below.refl _ _⟩
    · go_wp2_with (first | (go_at_call 78; refine H.out.1.mono ?_; rintro e w1 ⟨rfl, rfl⟩) | (go_at_call 69; refine H.out.2.1.mono ?_; rintro e w1 ⟨rfl, rfl⟩))
      go_ret2
      have e1 : lgChkE s.data.toList = 0 := by rw [H.out.2.2, if_neg h1, if_neg h2]
      exact ⟨by unfold lgChkV; rw [e1]; rfl, Below.refl _ _⟩
theorem indexByte_has (l : By) (c : UInt8) : decide (0 ≤ Lib.indexByte l c) = decide (0 < l.count c) := by
  have key : ∀ l : By, (0 ≤ Lib.indexByte l c) ↔ c ∈ l := by
    intro l
    induction l with
    | nil => simp [Lib.indexByte]
    | cons b l ih =>
      unfold Lib.indexByte
      have h1 := Lib.indexByte_ge l c
      by_cases hb : b = c
      · simp [hb]
      · have hb' : ¬ c = b := fun e => hb e.symm
        simp only [beq_iff_eq, hb, if_false, List.mem_cons, hb', false_or]
        rw [← ih]
        split <;> omega
  rw [Bool.eq_iff_iff, decide_eq_true_eq, decide_eq_true_eq, key, List.count_pos_iff]
set_option maxRecDepth 100000 in
set_option maxHeartbeats 4000000 in
theorem gChecked_any (s : ByteArray) (w : World) (hs : s.size ≤ 1000000) (E : Env w) :
    Calls Tryz.prog 20 #[.string s] w (LgChkPost w s.data.toList) := by
  obtain ⟨n, hn⟩ : ∃ n, n = s.data.toList.count 10 := ⟨_, rfl⟩
  have kf := Tryz.strings_Contains_one s 10 w
  have kw := checked_any s w hs E
  rw [indexByte_has, ← hn] at kf
  obtain ⟨z, hz⟩ : ∃ z, z = decide (0 < n) := ⟨_, rfl⟩
  rw [← hz] at kf
  have hlen : s.data.toList.length = s.size := Array.length_toList
  have hE : lgChkE s.data.toList = if z = true then 3 else if 250 < s.size then 2 else 0 := by unfold lgChkE; rw [← hn, hlen, hz]; simp
  have H := Lib.hid (And.intro kf (And.intro kw hE))
  clear kf kw hE hlen hn hz
  go_enter Tryz.func20, Tryz.ntmps20
  cases z
  · by_cases h2 : 250 < s.size
    · go_wp2_with (go_at_call 59; refine H.out.1.mono ?_; rintro e w1 ⟨rfl, rfl⟩)
      go_ret2
      have e1 : lgChkE s.data.toList = 2 := by rw [H.out.2.2, if_neg (by simp), if_pos h2]
      exact ⟨by unfold lgChkV; rw [e1]; rfl, Below.refl _ _⟩
    · go_wp2_with (first | (go_at_call 59; refine H.out.1.mono ?_; rintro e w1 ⟨rfl, rfl⟩) | (go_at_call 65; refine H.out.2.1.mono ?_; rintro e w2 ⟨rfl, b2⟩; have HB := Lib.hid b2; clear b2))
      go_ret2
      have e1 : lgChkE s.data.toList = 0 := by rw [H.out.2.2, if_neg (by simp), if_neg h2]
      exact ⟨by unfold lgChkV; rw [e1]; rfl, HB.out⟩
  · go_wp2_with (go_at_call 59; refine H.out.1.mono ?_; rintro e w1 ⟨rfl, rfl⟩)
    go_ret2
    have e1 : lgChkE s.data.toList = 3 := by rw [H.out.2.2]; simp
    exact ⟨by unfold lgChkV; rw [e1]; rfl, Below.refl _ _⟩
theorem str_beq (v s : ByteArray) : (v.toList == s.toList) = decide (v = s) := by
  rw [ByteArray.toList_eq, ByteArray.toList_eq, Bool.eq_iff_iff, beq_iff_eq, decide_eq_true_eq]
  constructor
  · intro h
    rw [← bs_eta v, ← bs_eta s, h]
  · rintro rfl; rfl
theorem body_bs (s : ByteArray) : s.extract 0 (s.size - 6) = bs (body s.data.toList) := by
  conv => lhs; rw [← bs_eta s]
  rw [bs_ext]
  unfold body
  rw [show (bs s.data.toList).size = s.data.toList.length from bs_size _]
  simp
theorem bs_inj {a b : By} : bs a = bs b ↔ a = b := by
  constructor
  · intro h
    have := congrArg (fun x : ByteArray => x.data.toList) h
    simpa [bs] using this
  · rintro rfl; rfl
set_option maxRecDepth 100000 in
set_option maxHeartbeats 4000000 in
theorem gContent_any (s : ByteArray) (w : World) (hs : s.size ≤ 1000000) (E : Env w) :
    Calls Tryz.prog 79 #[.string s] w fun e w' => e = .returned (.tuple #[.string (bs (body s.data.toList)), .bool (inside s.data.toList)]) ∧ Below w.heap.size w w' := by
  obtain ⟨t, ht⟩ : ∃ t, t = bs (body s.data.toList) := ⟨_, rfl⟩
  have htd : t.data.toList = body s.data.toList := by rw [ht]
  have hts : t.size ≤ 1000000 := by rw [ht, bs_size]; unfold body; rw [List.length_take]; have : s.data.toList.length = s.size := Array.length_toList; omega
  have kf := Tryz.strings_Contains_one t 10 w
  have kw := checked_any t w hts E
  rw [indexByte_has] at kf
  obtain ⟨z, hz⟩ : ∃ z, z = decide (0 < t.data.toList.count 10) := ⟨_, rfl⟩
  rw [← hz] at kf
  obtain ⟨v, hv⟩ : ∃ v, v = bs (whole t.data.toList) := ⟨_, rfl⟩
  rw [← hv] at kw
  have hlen : s.data.toList.length = s.size := Array.length_toList
  have hin : inside s.data.toList = (decide (s.size ≤ 256) && (!z && decide (v = s))) := by
    unfold inside
    have e1 : (body s.data.toList).contains 10 = z := by
      rw [hz, htd, Bool.eq_iff_iff, List.contains_iff_mem, decide_eq_true_eq, List.count_pos_iff]
    have e2 : decide (whole (body s.data.toList) = s.data.toList) = decide (v = s) := by
      rw [hv, htd]
      conv => rhs; rw [← bs_eta s]
      rw [decide_eq_decide, bs_inj]
    rw [e1, e2, hlen]
  have hx : s.extract 0 (s.size - 6) = t := by rw [body_bs, ht]
  have H := Lib.hid (And.intro kf (And.intro kw (And.intro hin (And.intro ht hx))))
  clear kf kw hin hlen hz hv htd ht hx
  go_enter Tryz.func79, Tryz.ntmps79
  go_upto_region 2 with fail
  rw [show (max ((s.size : Int) - 6) 0).toNat = s.size - 6 from by omega, H.out.2.2.2.2]
  by_cases h1 : s.size ≤ 256
  · have d1 : decide ((s.size : Int) ≤ 256) = true := decide_eq_true (by omega)
    have D1 := Lib.hid h1
    clear h1
    cases z
    · go_wp2_with (first | (go_at_call 59; refine H.out.1.mono ?_; rintro e w1 ⟨rfl, rfl⟩) | (go_at_call 65; refine H.out.2.1.mono ?_; rintro e w2 ⟨rfl, b2⟩; have HB := Lib.hid b2; clear b2))
      go_ret2
      exact ⟨by rw [H.out.2.2.1, decide_eq_true D1.out, ← H.out.2.2.2.1, ← str_beq]; simp, HB.out⟩
    · go_wp2_with (go_at_call 59; refine H.out.1.mono ?_; rintro e w1 ⟨rfl, rfl⟩)
      go_ret2
      exact ⟨by rw [H.out.2.2.1, ← H.out.2.2.2.1]; simp, Below.refl _ _⟩
  · have d1 : decide ((s.size : Int) ≤ 256) = false := decide_eq_false (by omega)
    have D1 := Lib.hid h1
    clear h1
    go_wp2_with fail
    go_ret2
    exact ⟨by rw [H.out.2.2.1, decide_eq_false D1.out, ← H.out.2.2.2.1]; simp, Below.refl _ _⟩
/-- Content's answer -/
def lgCntE (s : By) : Int := if 256 < s.length then 2 else if inside s = true then 0 else 7
def lgCntV (s : By) : By := if lgCntE s = 0 then body s else []
def LgCntPost (w : World) (s : By) (e : Ending) (w' : World) : Prop := e = .returned (.tuple #[.string (bs (lgCntV s)), .int .i64 (lgCntE s)]) ∧ Below w.heap.size w w'
set_option maxRecDepth 100000 in
set_option maxHeartbeats 4000000 in
theorem gContentE_any (s : ByteArray) (w : World) (hs : s.size ≤ 1000000) (E : Env w) :
    Calls Tryz.prog 22 #[.string s] w (LgCntPost w s.data.toList) := by
  have hlen : s.data.toList.length = s.size := Array.length_toList
  have kc := gContent_any s w hs E
  obtain ⟨z, hz⟩ : ∃ z, z = inside s.data.toList := ⟨_, rfl⟩
  obtain ⟨t, ht⟩ : ∃ t, t = bs (body s.data.toList) := ⟨_, rfl⟩
  rw [← hz, ← ht] at kc
  have hE : lgCntE s.data.toList = if 256 < s.size then 2 else if z = true then 0 else 7 := by unfold lgCntE; rw [hlen, hz]
  have H := Lib.hid (And.intro kc (And.intro hE ht))
  clear kc hE hlen hz ht
  go_enter Tryz.func22, Tryz.ntmps22
  by_cases h1 : 256 < s.size
  · go_wp2_with fail
    go_ret2
    have e1 : lgCntE s.data.toList = 2 := by rw [H.out.2.1, if_pos h1]
    exact ⟨by unfold lgCntV; rw [e1]; rfl, Below.refl _ _⟩
  · cases z
    · go_wp2_with (go_at_call 79; refine H.out.1.mono ?_; rintro e w1 ⟨rfl, b1⟩; have HB := Lib.hid b1; clear b1)
      go_ret2
      have e1 : lgCntE s.data.toList = 7 := by rw [H.out.2.1, if_neg h1]; simp
      exact ⟨by unfold lgCntV; rw [e1]; rfl, HB.out⟩
    · go_wp2_with (go_at_call 79; refine H.out.1.mono ?_; rintro e w1 ⟨rfl, b1⟩; have HB := Lib.hid b1; clear b1)
      go_ret2
      have e1 : lgCntE s.data.toList = 0 := by rw [H.out.2.1, if_neg h1]; simp
      exact ⟨by unfold lgCntV; rw [e1, if_pos rfl, ← H.out.2.2]; rfl, HB.out⟩
set_option maxRecDepth 100000 in
set_option maxHeartbeats 4000000 in
theorem rInside_any (s : ByteArray) (w : World) (hs : s.size ≤ 1000000) :
    Calls Tryz.prog 80 #[.string s] w fun e w' => e = .returned (.tuple #[.string (bs (if inside s.data.toList = true then body s.data.toList else [])), .bool (inside s.data.toList)]) ∧ w = w' := by
  have hlen : s.data.toList.length = s.size := Array.length_toList
  obtain ⟨t, ht⟩ : ∃ t, t = bs (body s.data.toList) := ⟨_, rfl⟩
  have htd : t.data.toList = body s.data.toList := by rw [ht]
  have hts : t.size ≤ 1000000 := by rw [ht, bs_size]; unfold body; rw [List.length_take]; omega
  have kf := rFeeds_any s w hs
  have kw := rWhole_any t w hts
  obtain ⟨n, hn⟩ : ∃ n, n = s.data.toList.count 10 := ⟨_, rfl⟩
  rw [← hn] at kf
  obtain ⟨v, hv⟩ : ∃ v, v = bs (whole t.data.toList) := ⟨_, rfl⟩
  rw [← hv] at kw
  have hx : s.extract 0 (s.size - 6) = t := by rw [body_bs, ht]
  have hin : inside s.data.toList = if s.size < 6 ∨ 256 < s.size ∨ n ≠ 1 then false else decide (v = s) := by
    rw [← insideR_eq]
    unfold insideR
    rw [hlen, ← hn]
    have e2 : decide (whole (body s.data.toList) = s.data.toList) = decide (v = s) := by
      rw [hv, htd]
      conv => rhs; rw [← bs_eta s]
      rw [decide_eq_decide, bs_inj]
    rw [e2]
  obtain ⟨z, hz⟩ : ∃ z, z = inside s.data.toList := ⟨_, rfl⟩
  obtain ⟨V, hV⟩ : ∃ V, V = bs (if inside s.data.toList = true then body s.data.toList else []) := ⟨_, rfl⟩
  rw [← hV, ← hz]
  rw [← hz] at hin hV
  have hV0 : z = false → V = bs [] := fun e => by rw [hV, e]; rfl
  have hV1 : z = true → V = t := fun e => by rw [hV, e, ht]; rfl
  have H := Lib.hid (And.intro kf (And.intro kw (And.intro hin (And.intro hV0 (And.intro hV1 hx)))))
  clear kf kw hin hlen hn hv htd ht hx hz hV hV0 hV1
  go_enter Tryz.func80, Tryz.ntmps80
  by_cases h1 : s.size < 6
  · have d1 : decide ((s.size : Int) < 6) = true := decide_eq_true (by omega)
    go_wp2_with fail
    go_ret2
    have e1 : z = false := by rw [H.out.2.2.1, if_pos (.inl h1)]
    exact ⟨by rw [H.out.2.2.2.1 e1, e1]; rfl, rfl⟩
  · have d1 : decide ((s.size : Int) < 6) = false := decide_eq_false (by omega)
    by_cases h2 : 256 < s.size
    · have d2 : decide ((256 : Int) < (s.size : Int)) = true := decide_eq_true (by omega)
      go_wp2_with fail
      go_ret2
      have e1 : z = false := by rw [H.out.2.2.1, if_pos (.inr (.inl h2))]
      exact ⟨by rw [H.out.2.2.2.1 e1, e1]; rfl, rfl⟩
    · have d2 : decide ((256 : Int) < (s.size : Int)) = false := decide_eq_false (by omega)
      by_cases h3 : n = 1
      · have d3 : ((n : Int) != 1) = false := by simp; omega
        have h12 := Lib.hid (And.intro h1 (And.intro h2 h3))
        by_cases h4 : v = s
        · have d4 : (v.toList == s.toList) = true := by rw [str_beq, h4]; simp
          have h4' := Lib.hid h4
          clear h3 h4
          go_upto_region 4 with (go_at_call 78; refine H.out.1.mono ?_; rintro e w1 ⟨rfl, rfl⟩)
          rw [H.out.2.2.2.2.2]
          go_wp2_with (go_at_call 69; refine H.out.2.1.mono ?_; rintro e w1 ⟨rfl, rfl⟩)
          go_ret2
          have e1 : z = true := by rw [H.out.2.2.1, if_neg (by have := h12.out; omega), decide_eq_true h4'.out]
          exact ⟨by rw [H.out.2.2.2.2.1 e1, e1]; rfl, rfl⟩
        · have d4 : (v.toList == s.toList) = false := by rw [str_beq]; simp [h4]
          have h4' := Lib.hid h4
          clear h3 h4
          go_upto_region 4 with (go_at_call 78; refine H.out.1.mono ?_; rintro e w1 ⟨rfl, rfl⟩)
          rw [H.out.2.2.2.2.2]
          go_wp2_with (go_at_call 69; refine H.out.2.1.mono ?_; rintro e w1 ⟨rfl, rfl⟩)
          go_ret2
          have e1 : z = false := by rw [H.out.2.2.1, if_neg (by have := h12.out; omega), decide_eq_false h4'.out]
          exact ⟨by rw [H.out.2.2.2.1 e1, e1]; rfl, rfl⟩
      · have d3 : ((n : Int) != 1) = true := by simp; omega
        have h3' := Lib.hid h3
        clear h3
        go_wp2_with (go_at_call 78; refine H.out.1.mono ?_; rintro e w1 ⟨rfl, rfl⟩)
        go_ret2
        have e1 : z = false := by rw [H.out.2.2.1, if_pos (.inr (.inr h3'.out))]
        exact ⟨by rw [H.out.2.2.2.1 e1, e1]; rfl, rfl⟩
set_option maxRecDepth 100000 in
set_option maxHeartbeats 4000000 in
theorem rContent_any (s : ByteArray) (w : World) (hs : s.size ≤ 1000000) :
    Calls Tryz.prog 23 #[.string s] w (LgCntPost w s.data.toList) := by
  have hlen : s.data.toList.length = s.size := Array.length_toList
  have kc := rInside_any s w hs
  obtain ⟨z, hz⟩ : ∃ z, z = inside s.data.toList := ⟨_, rfl⟩
  obtain ⟨V, hV⟩ : ∃ V, V = bs (if inside s.data.toList = true then body s.data.toList else []) := ⟨_, rfl⟩
  rw [← hV, ← hz] at kc
  rw [← hz] at hV
  have hE : lgCntE s.data.toList = if 256 < s.size then 2 else if z = true then 0 else 7 := by unfold lgCntE; rw [hlen, hz]
  have hV1 : z = true → V = bs (body s.data.toList) := fun e => by rw [hV, e]; rfl
  have H := Lib.hid (And.intro kc (And.intro hE hV1))
  clear kc hE hlen hz hV hV1
  go_enter Tryz.func23, Tryz.ntmps23
  by_cases h1 : 256 < s.size
  · go_wp2_with fail
    go_ret2
    have e1 : lgCntE s.data.toList = 2 := by rw [H.out.2.1, if_pos h1]
    exact ⟨by unfold lgCntV; rw [e1]; rfl, Below.refl _ _⟩
  · cases z
    · go_wp2_with (go_at_call 80; refine H.out.1.mono ?_; rintro e w1 ⟨rfl, rfl⟩)
      go_ret2
      have e1 : lgCntE s.data.toList = 7 := by rw [H.out.2.1, if_neg h1]; simp
      exact ⟨by unfold lgCntV; rw [e1]; rfl, Below.refl _ _⟩
    · go_wp2_with (go_at_call 80; refine H.out.1.mono ?_; rintro e w1 ⟨rfl, rfl⟩)
      go_ret2
      have e1 : lgCntE s.data.toList = 0 := by rw [H.out.2.1, if_neg h1]; simp
      exact ⟨by unfold lgCntV; rw [e1, if_pos rfl, ← H.out.2.2 (by simp)]; rfl, Below.refl _ _⟩
end Go.Proofs.YtaokegobilphnaaGreatDoor
/- append of a whole slice onto a slice of the call's own (elements of several cells), in place or not. No program is named here. -/
namespace Go.Proofs.YtaokegobilphnaaGreatDoor
open Go Go.RowKit

section
variable {w w' : World} {e : TypeId} {size : Nat} {A B : Option Addr} {n c m d : Nat} {xs ys : List Value} {fp : List Nat} {P : Program}
theorem Rd.add_n (h : Rd w size B m ys) {ad : Addr} (he : B = some ad) : ∀ j u, ys[j]? = some u → w.cell? (ad.add j) = some u := by
  intro j u hu
  have hl : 0 < m := by
    have h1 := (List.getElem?_eq_some_iff.1 hu).1
    have h2 := h.1
    rcases Nat.eq_zero_or_pos m with h3 | h3
    · subst h3; simp at h2; subst h2; simp at h1
    · exact h3
  obtain ⟨b, off, e1, _, hc⟩ := h.2 hl
  rw [he] at e1
  injection e1 with e1
  subst e1
  have := hc j u hu
  by_cases hj : j = 0
  · subst hj; simpa [Addr.add] using this
  · simpa [Addr.add, hj] using this

theorem run_append_M (t ty : TypeId) (i : TypeInfo) (z : Value) (bytes : Nat) (ht : P.underlying t = some (.slice e)) (hi : P.info? e = some i) (hz : i.zero = some z)
    (hsize : i.size = size) (hby : i.bytes = bytes) (hzs : z.cells.size = size) (hown : OwnS w e size A n c xs fp) (hr : Rd w size B m ys) (h1 : ∀ u ∈ ys, u.oneCell' = true)
    (hn : n + m ≤ 1000000000000) (hbytes : bytes ≤ 100) :
    ∃ A' c' w' fp', (Builtin.append_ #[t, t] ty #[.slice A n c, .slice B m d]).run P w = .ok (.slice A' (n + m) c') w' ∧
      OwnS w' e size A' (n + m) c' (xs ++ ys) fp' ∧ (∀ g ∈ fp', g ∈ fp ∨ w.heap.size = g) ∧ Keep fp w w' := by
  subst hby hsize
  have hym : ys.length = m * i.size := hr.1
  have hxl := hown.1
  rcases Nat.eq_zero_or_pos m with hm | hm
  · subst hm
    obtain rfl : ys = [] := List.eq_nil_of_length_eq_zero (by simpa using hym)
    refine ⟨A, c, w, fp, ?_, by simpa using hown, fun g hg => .inl hg, Keep.refl _ _⟩
    have hge := hown.ge
    have hfc : (Builtin.firstCells i.size 0 (.slice B 0 d)).run P w = .ok #[] w := by
      cases B with
      | none => simp [Builtin.firstCells]
      | some b => simp [Builtin.firstCells, loadCells, loadCellsFrom]
    cases A with
    | none => simp [Builtin.append_, run_underlying ht, sizeOf, typeInfo, hi, Builtin.lenOf, hge, hfc]
    | some a => simp [Builtin.append_, run_underlying ht, sizeOf, typeInfo, hi, Builtin.lenOf, hge, hfc, storeCells]
  · obtain ⟨b, off, rfl, hb, hc⟩ := hr.2 hm
    have hb1 : (n + m) * i.bytes ≤ 140737488355328 := Nat.le_trans (Nat.mul_le_mul hn hbytes) (by decide)
    have hnews := hr.add_n rfl
    have hmx : n + m ≤ maxLen := by simp only [maxLen]; omega
    have grown : ∀ (old : Nat) (olds : List Value), olds = xs →
        OwnS (w.drew.alloc (.cells (olds.toArray ++ ys.toArray ++ Builtin.zeroCells z.cells (grownCap w (n + m) old e - (n + m))) e)) e i.size (some ⟨w.heap.size, 0, none⟩) (n + m) (grownCap w (n + m) old e) (xs ++ ys) [w.heap.size] := by
      rintro old olds rfl
      have hge := grownCap_ge w (n + m) old e
      have hcm : grownCap w (n + m) old e ≤ maxLen := grownCap_le_maxLen w (n + m) old e hmx
      simp only [maxLen] at hcm
      refine ⟨by simp [hxl, hym, Nat.add_mul], .inr ⟨_, _, rfl, rfl, heap_alloc_new w.drew _, hge, hcm, ?_, ?_⟩⟩
      · simp only [Array.size_append, List.size_toArray, size_zeroCells, hzs, hxl, hym]
        generalize grownCap w (n + m) old e = G at hge ⊢
        obtain ⟨d, rfl⟩ : ∃ d, G = n + m + d := ⟨G - (n + m), by omega⟩
        rw [show n + m + d - (n + m) = d from by omega]
        simp only [Nat.add_mul]
      · intro j v hv
        have hlt : j < (olds ++ ys).length := (List.getElem?_eq_some_iff.1 hv).1
        rw [Array.getElem?_append_left (by simpa using hlt)]
        simpa using hv
    have hkeep : ∀ o : Obj, Keep fp w (w.drew.alloc o) := fun o => ((Keep.refl fp w).drew).alloc o
    rcases hown.2 with ⟨rfl, rfl, rfl, rfl⟩ | ⟨g, cur, rfl, rfl, hh, hnc, hcm, hcs, hat⟩
    · have hx : xs = [] := List.eq_nil_of_length_eq_zero (by omega)
      subst hx
      have hrn := run_append_nil (P := P) w t ty e i z ht hi hz ⟨b, off, none⟩ m d ys hym hnews hm (by omega) (by simp at hb1; omega)
      have hg := grown 0 [] rfl
      simp only [Nat.zero_add, List.nil_append, Array.empty_append] at hg ⊢
      exact ⟨_, _, _, _, hrn, hg, fun y hy => .inr (List.mem_singleton.1 hy).symm, hkeep _⟩
    · by_cases hroom : n + m ≤ c
      · have hcn : (n + m) * i.size ≤ c * i.size := Nat.mul_le_mul_right _ hroom
        have hn1 : (n + m) * i.size = n * i.size + m * i.size := Nat.add_mul _ _ _
        have hrn := run_append_room_cells (P := P) w t ty e i ht hi g 0 n c ⟨b, off, none⟩ m d ys hym hnews h1 hroom (by
          intro j hj
          have hlt' : 0 + n * i.size + j < cur.size := by omega
          rw [cell_of_heap hh, Array.getElem?_eq_getElem hlt']
          rfl) (fun j hj => frozen_of_heap hh _)
        obtain ⟨cur', g1, g2, g3, g4⟩ := setCells_heap g ys (0 + n * i.size) w cur hh
        refine ⟨some ⟨g, 0, none⟩, c, _, [g], hrn, ⟨by simp [hxl, hym, hn1], .inr ⟨g, cur', rfl, rfl, g1, hroom, hcm, by rw [g2]; exact hcs, ?_⟩⟩, fun y hy => .inl hy, setCells_keep g ys _ w w (Keep.refl _ _) (.inl (by simp))⟩
        intro j v hv
        rw [List.getElem?_append] at hv
        split at hv
        · rename_i hj
          rw [g4 j (by omega)]
          exact hat j v hv
        · rename_i hj
          have h6 := (List.getElem?_eq_some_iff.1 hv).1
          have := g3 (j - xs.length) v hv (by omega)
          rwa [show 0 + n * i.size + (j - xs.length) = j from by omega] at this
      · have holds : ∀ j v, xs[j]? = some v → w.cell? ((⟨g, 0, none⟩ : Addr).add j) = some v := by
          intro j v hv
          rw [show (⟨g, 0, none⟩ : Addr).add j = ⟨g, j, none⟩ from by simp [Addr.add]; omega]
          exact (cell_of_heap hh _).trans (hat j v hv)
        have hrn := run_append_grow (P := P) w t ty e i z ht hi hz ⟨g, 0, none⟩ n c xs hxl holds ⟨b, off, none⟩ m d ys hym hnews (by omega) (by omega) (growslice_fits (by omega) hb1)
        exact ⟨_, _, _, _, hrn, grown c xs rfl, fun y hy => .inr (List.mem_singleton.1 hy).symm, hkeep _⟩

theorem wp_append_M {o : Oper} {a : Act} {K : Act → World → Prop} {Q : Exit → Act → World → Prop} (s x : Operand) (t : TypeId)
    (ho : o.op = .call { callee := .builtin .append, args := #[s, x], argTypes := #[t, t] })
    (i : TypeInfo) (z : Value) (bytes : Nat) (ht : P.underlying t = some (.slice e)) (hi : P.info? e = some i) (hz : i.zero = some z)
    (hsize : i.size = size) (hby : i.bytes = bytes) (hzs : z.cells.size = size) (hs : a.eval s = .slice A n c) (hx : a.eval x = .slice B m d)
    (hown : OwnS w e size A n c xs fp) (hr : Rd w size B m ys) (h1 : ∀ u ∈ ys, u.oneCell' = true)
    (hn : n + m ≤ 1000000000000) (hbytes : bytes ≤ 100)
    (h : ∀ A' c' w' fp', OwnS w' e size A' (n + m) c' (xs ++ ys) fp' → (∀ g ∈ fp', g ∈ fp ∨ w.heap.size = g) → Keep fp w w' → K (a.put o.dst (.slice A' (n + m) c')) w') : o.wp P a w K Q := by
  obtain ⟨A', c', w', fp', hrn, h2, h3, h4⟩ := run_append_M (P := P) (d := d) t o.type i z bytes ht hi hz hsize hby hzs hown hr h1 hn hbytes
  unfold Oper.wp execOp
  simp only [ho, resolve, invoke, builtin, Sem.run_bind, Sem.run_pure, Result.andThen_ok, List.map_toArray, List.map_cons, List.map_nil, hs, hx, hrn]
  exact h A' c' w' fp' h2 h3 h4

theorem wpList_append_M {ops : Array Oper} {rest : List Oper} {o : Oper} {a : Act} {Q : Exit → Act → World → Prop} (hgd : o.guard = none) (s x : Operand) (t : TypeId)
    (ho : o.op = .call { callee := .builtin .append, args := #[s, x], argTypes := #[t, t] })
    (i : TypeInfo) (z : Value) (bytes : Nat) (ht : P.underlying t = some (.slice e)) (hi : P.info? e = some i) (hz : i.zero = some z)
    (hsize : i.size = size) (hby : i.bytes = bytes) (hzs : z.cells.size = size) (hs : a.eval s = .slice A n c) (hx : a.eval x = .slice B m d)
    (hown : OwnS w e size A n c xs fp) (hr : Rd w size B m ys) (h1 : ∀ u ∈ ys, u.oneCell' = true)
    (hn : n + m ≤ 1000000000000) (hbytes : bytes ≤ 100)
    (h : ∀ A' c' w' fp', OwnS w' e size A' (n + m) c' (xs ++ ys) fp' → (∀ g ∈ fp', g ∈ fp ∨ w.heap.size = g) → Keep fp w w' → wpList P ops Q rest (a.put o.dst (.slice A' (n + m) c')) w') : wpList P ops Q (o :: rest) a w :=
  wpList_plain hgd fun _ hK => wp_append_M s x t ho i z bytes ht hi hz hsize hby hzs hs hx hown hr h1 hn hbytes fun A' c' w' fp' h2 h3 h4 => hK _ _ (h A' c' w' fp' h2 h3 h4)
end
/-- what slices.Clone answers -/
def CloneS (w : World) (e : TypeId) (size n : Nat) (xs : List Value) (r : Ending) (w' : World) : Prop :=
  ∃ A c q, r = .returned (.slice A n c) ∧ OwnS w' e size A n c xs q ∧ (∀ g ∈ q, w.heap.size ≤ g) ∧ Below w.heap.size w w'
end Go.Proofs.YtaokegobilphnaaGreatDoor
/- Lists of numbers, and of truths, as values. No program is named here. -/
namespace Go.Proofs.YtaokegobilphnaaGreatDoor
open Go

def ints (l : List Int) : List Value := l.map (Value.int .i64)
theorem ints_get {l : List Int} {k : Nat} (h : k < l.length) : (ints l)[k]? = some (.int .i64 (l.getD k 0)) := by simp [ints, h]
def bools (l : List Bool) : List Value := l.map Value.bool
theorem bools_get {l : List Bool} {k : Nat} (h : k < l.length) : (bools l)[k]? = some (.bool (l.getD k false)) := by simp [bools, h]
end Go.Proofs.YtaokegobilphnaaGreatDoor
/- polynyaref13: Lines, Damaged -/
namespace Go.Proofs.YtaokegobilphnaaGreatDoor
open Go Go.RowKit Sp Lg
set_option linter.unusedVariables false
set_option linter.unusedSimpArgs false

def strs (L : List By) : List Value := L.map fun l => .string (bs l)
theorem strs_snoc (L : List By) (l : By) : strs L ++ [.string (bs l)] = strs (L ++ [l]) := by simp [strs]
theorem strs_one (L : List By) : ∀ u ∈ strs L, u.oneCell' = true := by
  intro u hu
  obtain ⟨x, _, rfl⟩ := List.mem_map.1 hu
  rfl
theorem strs_get {L : List By} {k : Nat} (hk : k < L.length) : (strs L)[k]? = some (.string (bs (L.getD k []))) := by
  simp [strs, List.getD_eq_getElem?_getD, List.getElem?_eq_getElem hk]
theorem infoStr : (Tryz.prog.info? 9).map (fun i => (i.zero, i.size, i.bytes)) = some (some (.string ByteArray.empty), 1, 16) := by kernel_rfl
/-- where the reference's scan stands -/
structure LnI (s : By) (k f : Nat) (L : List By) : Prop where
  le : f ≤ k ∧ k ≤ s.length
  cut : lines s = L ++ lines (s.drop f)
  no : ¬ (10 : UInt8) ∈ (s.drop f).take (k - f)
  few : L.length ≤ k
  fin : k = s.length → f = s.length
theorem LnI.start (s : By) : LnI s 0 0 [] := ⟨by omega, by simp, by simp, by simp, fun h => h⟩
theorem LnI.split {s : By} {k f : Nat} {L : List By} (h : LnI s k f L) (hk : k < s.length) : s.drop f = (s.drop f).take (k - f) ++ s[k] :: s.drop (k + 1) := by
  have h1 := h.le
  conv => lhs; rw [← List.take_append_drop (k - f) (s.drop f)]
  rw [List.drop_drop, show f + (k - f) = k from by omega, List.drop_eq_getElem_cons hk]
theorem LnI.piece {s : By} {k f : Nat} {L : List By} (h : LnI s k f L) (hk : k < s.length) (hb : s[k] = 10 ∨ k + 1 = s.length) : LnI s (k + 1) (k + 1) (L ++ [(s.drop f).take (k + 1 - f)]) := by
  have h1 := h.le
  have h2 := h.split hk
  have h3 : (s.drop f).take (k + 1 - f) = (s.drop f).take (k - f) ++ [s[k]] := by
    rw [show k + 1 - f = (k - f) + 1 from by omega]
    have hl : k - f < (s.drop f).length := by rw [List.length_drop]; omega
    rw [List.take_succ_eq_append_getElem hl, List.getElem_drop]
    have : f + (k - f) = k := by omega
    simp [this]
  refine ⟨by omega, ?_, by simp, by simp; have := h.few; omega, fun h => h⟩
  have e : lines (s.drop f) = (s.drop f).take (k + 1 - f) :: lines (s.drop (k + 1)) := by
    rw [h3]
    conv => lhs; rw [h2]
    exact lines_at h.no (hb.imp id fun e => by rw [e]; simp)
  rw [h.cut, e]
  simp
theorem LnI.next {s : By} {k f : Nat} {L : List By} (h : LnI s k f L) (hk : k < s.length) (hb : s[k] ≠ 10) (hk2 : k + 1 ≠ s.length) : LnI s (k + 1) f L := by
  have h1 := h.le
  have hl : k - f < (s.drop f).length := by rw [List.length_drop]; omega
  refine ⟨by omega, h.cut, ?_, by have := h.few; omega, fun e => absurd e hk2⟩
  rw [show k + 1 - f = (k - f) + 1 from by omega, List.take_succ_eq_append_getElem hl, List.getElem_drop]
  have e : f + (k - f) = k := by omega
  simp only [List.mem_append, List.mem_singleton, not_or]
  exact ⟨h.no, by simp only [e]; exact fun h => hb h.symm⟩
theorem LnI.done {s : By} {f : Nat} {L : List By} (h : LnI s s.length f L) : lines s = L := by
  rw [h.cut, h.fin rfl]; simp [lines]
set_option maxRecDepth 100000 in
set_option maxHeartbeats 4000000 in
theorem rLines_any (s : ByteArray) (w : World) (hs : s.size ≤ 1000000) :
    Calls Tryz.prog 73 #[.string s] w (CloneS w 9 1 (lines s.data.toList).length (strs (lines s.data.toList))) := by
  obtain ⟨i0, hi0, hz0, hz1, hz2⟩ := info_parts infoStr
  obtain ⟨T, hT⟩ : ∃ T, T = s.data.toList := ⟨_, rfl⟩
  have hTl : T.length = s.size := by rw [hT]; exact Array.length_toList
  have hext : ∀ a b, s.extract a b = bs ((T.drop a).take (b - a)) := fun a b => by
    conv => lhs; rw [← bs_eta s]
    rw [bs_ext, hT]
  have hget : ∀ (k : Nat) (hk : k < s.size) (hk2 : k < T.length), s[k] = T[k] := fun k hk hk2 => by
    have := byte_at hk
    rw [← hT, List.getD_eq_getElem?_getD, List.getElem?_eq_getElem hk2] at this
    simpa using this.symm
  rw [← hT]
  have O0 : Own w.heap.size w [.own 9 1 none 0 0 [] []] w := by
    have h := (Own.start w).new (i := .own 9 1 none 0 0 [] []) (Below.refl _ _) (OwnS.nil _ _ _) (by simp [It.fp])
    simpa using h
  have HO := Lib.hid (And.intro O0 (And.intro hTl (And.intro hext hget)))
  clear O0 hTl hext hget hT
  go_enter Tryz.func73, Tryz.ntmps73
  go_wp2_with fail
  go_loopg [3, 4, 5] s.size (fun g o f i wr => ∃ (k fr : Nat) (L : List By) (B : Option Addr) (d : Nat) (q : List Nat) (N : Nat), g + k = s.size ∧ i = .int .i64 k ∧ f = .int .i64 fr ∧ o = .slice B N d ∧ N = L.length ∧ LnI T k fr L ∧ Own w.heap.size w [.own 9 1 B N d (strs L) q] wr)
  case atStart => exact ⟨0, 0, [], none, 0, [], 0, rfl, rfl, rfl, rfl, rfl, LnI.start _, HO.out.1⟩
  case round =>
    obtain ⟨k, fr, L, B, d, q, N, hk, rfl, rfl, rfl, hN, hL, oo⟩ := hrel
    by_cases hlt : k < s.size
    · have hTk : k < T.length := by rw [HO.out.2.1]; exact hlt
      have hfr := hL.le.1
      have hNk : N ≤ k := by rw [hN]; exact hL.few
      have hx := HO.out.2.2.1 fr (k + 1)
      have hcT := HO.out.2.2.2 k hlt hTk
      have HS := Lib.hid (And.intro hL (And.intro oo (And.intro hN (And.intro hx hcT))))
      clear hL oo hN hx hcT
      by_cases hb : s[k] = 10
      · have hb2 : ((s[k].toNat : Int) == 10) = true := by rw [hb]; rfl
        have HB := Lib.hid hb
        clear hb
        go_wp2_with (at_builtin
                     refine wpList_append_S (size := 1) rfl (.tmp 23) (.tmp 29) 36 rfl i0 _ 16 Tryz.underlying36 hi0 hz0 hz1 (by decide) hz2 rfl (A := B) (n := N) (c := d) (xs := strs L) (fp := q) (by simp [Act.eval]) ⟨wr.heap.size, 0, none⟩ (by simp [Act.eval]) [.string (s.extract fr (k + 1))] (((HS.out.2.1.below ((Below.refl _ _).alloc (Nat.le_refl _) _)).get 0 rfl)) rfl ?_ (by intro u hu; simp at hu; rcases hu with rfl; rfl) (by omega) (by decide) ?_
                     · intro j v hv
                       obtain ⟨hj, rfl⟩ := List.getElem?_eq_some_iff.1 hv
                       obtain rfl : j = 0 := by simpa using hj
                       exact (cell_of_heap (heap_alloc_new _ _) 0).trans rfl
                     intro g c' w5 h1 h2 h3 h4
                     rw [HS.out.2.2.2.1, strs_snoc] at h1
                     have hq := (HS.out.2.1.below ((Below.refl _ _).alloc (Nat.le_refl _) _)).upd 0 rfl (i' := .own 9 1 (some ⟨g, 0, none⟩) (N + 1) c' (strs (L ++ [(T.drop fr).take (k + 1 - fr)])) [g]) h4 h1 (fun x hx => by
                       rw [List.mem_singleton.1 hx]
                       rcases h2 with h | h
                       · exact .inl h
                       · exact .inr (Nat.le_of_eq h))
                     have HQ := Lib.hid hq
                     clear h1 h2 h3 h4 hq)
        go_roundg (gk - 1)
        case measure => omega
        case rel => exact ⟨k + 1, k + 1, _, some ⟨g, 0, none⟩, c', [g], N + 1, by omega, by go_num, by go_num, rfl, by simp [HS.out.2.2.1], HS.out.1.piece (by rw [HO.out.2.1]; exact hlt) (.inl (by rw [← HS.out.2.2.2.2]; exact HB.out)), HQ.out⟩
      · have hb2 : ((s[k].toNat : Int) == 10) = false := by
          rw [beq_eq_false_iff_ne]; intro e; exact hb (UInt8.toNat_inj.1 (by have : (10 : UInt8).toNat = 10 := rfl; omega))
        have HB := Lib.hid hb
        clear hb
        by_cases hl : k + 1 = s.size
        · have hl2 : ((k : Int) == (s.size : Int) - 1) = true := by rw [beq_iff_eq]; omega
          have HL := Lib.hid hl
          clear hl
          go_wp2_with (at_builtin
                       refine wpList_append_S (size := 1) rfl (.tmp 23) (.tmp 29) 36 rfl i0 _ 16 Tryz.underlying36 hi0 hz0 hz1 (by decide) hz2 rfl (A := B) (n := N) (c := d) (xs := strs L) (fp := q) (by simp [Act.eval]) ⟨wr.heap.size, 0, none⟩ (by simp [Act.eval]) [.string (s.extract fr (k + 1))] (((HS.out.2.1.below ((Below.refl _ _).alloc (Nat.le_refl _) _)).get 0 rfl)) rfl ?_ (by intro u hu; simp at hu; rcases hu with rfl; rfl) (by omega) (by decide) ?_
                       · intro j v hv
                         obtain ⟨hj, rfl⟩ := List.getElem?_eq_some_iff.1 hv
                         obtain rfl : j = 0 := by simpa using hj
                         exact (cell_of_heap (heap_alloc_new _ _) 0).trans rfl
                       intro g c' w5 h1 h2 h3 h4
                       rw [HS.out.2.2.2.1, strs_snoc] at h1
                       have hq := (HS.out.2.1.below ((Below.refl _ _).alloc (Nat.le_refl _) _)).upd 0 rfl (i' := .own 9 1 (some ⟨g, 0, none⟩) (N + 1) c' (strs (L ++ [(T.drop fr).take (k + 1 - fr)])) [g]) h4 h1 (fun x hx => by
                         rw [List.mem_singleton.1 hx]
                         rcases h2 with h | h
                         · exact .inl h
                         · exact .inr (Nat.le_of_eq h))
                       have HQ := Lib.hid hq
                       clear h1 h2 h3 h4 hq)
          go_roundg (gk - 1)
          case measure => omega
          case rel => exact ⟨k + 1, k + 1, _, some ⟨g, 0, none⟩, c', [g], N + 1, by omega, by go_num, by go_num, rfl, by simp [HS.out.2.2.1], HS.out.1.piece (by rw [HO.out.2.1]; exact hlt) (.inr (by rw [HO.out.2.1]; exact HL.out)), HQ.out⟩
        · have hl2 : ((k : Int) == (s.size : Int) - 1) = false := by rw [beq_eq_false_iff_ne]; omega
          have HL := Lib.hid hl
          clear hl
          go_wp2_with fail
          go_roundg (gk - 1)
          case measure => omega
          case rel => exact ⟨k + 1, fr, L, B, d, q, N, by omega, by go_num, rfl, rfl, HS.out.2.2.1, HS.out.1.next (by rw [HO.out.2.1]; exact hlt) (by rw [← HS.out.2.2.2.2]; exact HB.out) (by rw [HO.out.2.1]; exact HL.out), HS.out.2.1⟩
    · obtain rfl : k = s.size := by omega
      have hNk : N ≤ s.size := by rw [hN]; exact hL.few
      have HS := Lib.hid (And.intro hL (And.intro oo hN))
      clear hL oo hN
      go_wp2_with fail
      go_ret
      have hL := HS.out.1
      rw [← HO.out.2.1] at hL
      have e := hL.done
      refine ⟨B, d, q, ?_, ?_, fun x hx => HS.out.2.1.ge 0 rfl hx, HS.out.2.1.bel⟩
      · rw [e, ← HS.out.2.2]; rfl
      · rw [e, ← HS.out.2.2]; exact HS.out.2.1.get 0 rfl
theorem infoLgI : (Tryz.prog.info? 3).map (fun i => (i.zero, i.size, i.bytes)) = some (some (.int .i64 0), 1, 8) := by kernel_rfl
def lgDmE (s : By) : Int := if 131072 < s.length then 2 else 0
def lgDmV (s : By) : List Int := if 131072 < s.length then [] else dmN (lines s) (lines s).length
def LgDmPost (w : World) (s : By) (e : Ending) (w' : World) : Prop :=
  ∃ (B : Option Addr) (d : Nat), e = .returned (.tuple #[.slice B (lgDmV s).length d, .int .i64 (lgDmE s)]) ∧ Rd w' 1 B (lgDmV s).length (ints (lgDmV s)) ∧ (lgDmV s).length ≤ 1000000 ∧ Below w.heap.size w w'
set_option maxRecDepth 100000 in
set_option maxHeartbeats 4000000 in
theorem rDamaged_any (s : ByteArray) (w : World) (hs : s.size ≤ 1000000) :
    Calls Tryz.prog 29 #[.string s] w (LgDmPost w s.data.toList) := by
  obtain ⟨i0, hi0, hz0, hz1, hz2⟩ := info_parts infoLgI
  have hlen : s.data.toList.length = s.size := Array.length_toList
  obtain ⟨L, hL⟩ : ∃ L, L = lines s.data.toList := ⟨_, rfl⟩
  have kl := rLines_any s w hs
  rw [← hL] at kl
  have hLl : L.length ≤ 1000000 := by rw [hL]; exact Nat.le_trans (lines_few _) (by omega)
  have hLs : ∀ l ∈ L, l.length ≤ 1000000 := fun l hl => by rw [hL] at hl; have := (lines_len l hl).2; omega
  have hE : lgDmE s.data.toList = if 131072 < s.size then 2 else 0 := by unfold lgDmE; rw [hlen]
  have hV : lgDmV s.data.toList = if 131072 < s.size then [] else dmN L L.length := by unfold lgDmV; rw [hlen, hL]
  have H := Lib.hid (And.intro kl (And.intro hLs (And.intro hE hV)))
  clear kl hLs hE hV hlen
  have HLL := Lib.hid hL
  clear hL
  go_enter Tryz.func29, Tryz.ntmps29
  by_cases h1 : 131072 < s.size
  · go_wp2_with fail
    go_ret2
    have e1 : lgDmE s.data.toList = 2 := by rw [H.out.2.2.1, if_pos h1]
    have e2 : lgDmV s.data.toList = [] := by rw [H.out.2.2.2, if_pos h1]
    exact ⟨none, 0, by rw [e1, e2]; rfl, by rw [e2]; exact ⟨rfl, fun h => absurd h (by simp)⟩, by rw [e2]; simp, Below.refl _ _⟩
  · obtain ⟨n, hn⟩ : ∃ n, n = L.length := ⟨_, rfl⟩
    rw [← hn] at hLl
    have HN := Lib.hid (And.intro hn h1)
    have h1' : ¬ (131072 : Int) < (s.size : Int) := by omega
    clear hn
    go_upto_region 5 with (go_at_call 73; refine H.out.1.mono ?_; rintro e w1 ⟨A, c, q0, rfl, h2, h3, b1⟩; have H1 := Lib.hid (And.intro h2.rd b1); clear h2 h3 b1)
    rw [← HN.out.1]
    have O0 : Own w1.heap.size w1 [.own 3 1 none 0 0 [] []] w1 := by
      have h := (Own.start w1).new (i := .own 3 1 none 0 0 [] []) (Below.refl _ _) (OwnS.nil _ _ _) (by simp [It.fp])
      simpa using h
    have HO := Lib.hid O0
    clear O0
    go_wp2_with fail
    go_loopg [4, 6] n (fun g o i wr => ∃ (k : Nat) (B : Option Addr) (d : Nat) (q : List Nat) (N : Nat), g + k = n ∧ i = .int .i64 k ∧ o = .slice B N d ∧ N = (dmN L k).length ∧ Own w1.heap.size w1 [.own 3 1 B N d (ints (dmN L k)) q] wr)
    case atStart => exact ⟨0, none, 0, [], 0, rfl, rfl, rfl, rfl, HO.out⟩
    case round =>
      obtain ⟨k, B, d, q, N, hk, rfl, rfl, hNl, oo⟩ := hrel
      by_cases hlt : k < n
      · have hkL : k < L.length := by have := HN.out.1; omega
        obtain ⟨b, off, rfl, hb, hc⟩ := H1.out.1.2 (by omega)
        have c0 := (oo.bel.cell (p := ⟨b, off + k, none⟩) hb).trans (hc _ _ (strs_get hkL))
        have zb := Nat.lt_of_lt_of_le hb oo.bel.size
        obtain ⟨x, hx⟩ : ∃ x, x = bs (L.getD k []) := ⟨_, rfl⟩
        rw [← hx] at c0
        have hxl : x.data.toList = L.getD k [] := by rw [hx]
        have hxs : x.size ≤ 1000000 := by
          rw [hx, bs_size, List.getD_eq_getElem?_getD, List.getElem?_eq_getElem hkL]
          exact H.out.2.1 _ (List.getElem_mem hkL)
        have kI := rInside_any x wr hxs
        rw [hxl] at kI
        obtain ⟨z, hz⟩ : ∃ z, z = inside (L.getD k []) := ⟨_, rfl⟩
        obtain ⟨V, hV⟩ : ∃ V, V = bs (if inside (L.getD k []) = true then body (L.getD k []) else []) := ⟨_, rfl⟩
        rw [← hV, ← hz] at kI
        have hd1 : dmN L (k + 1) = if z = true then dmN L k else dmN L k ++ [(k : Int) + 1] := by rw [dmN, ← hz]
        have hNk : N ≤ k := by rw [hNl]; exact dmN_len L k
        have HS := Lib.hid (And.intro oo (And.intro kI (And.intro hd1 hNl)))
        clear hc oo kI hd1 hz hV hx hxl hNl hb
        cases z
        · go_upto_region 10 with (go_at_call 80; refine HS.out.2.1.mono ?_; rintro e w2 ⟨rfl, rfl⟩)
          go_wp2_with (at_builtin
                       refine wpList_append_S (size := 1) rfl (.tmp 30) (.tmp 33) 24 rfl i0 _ 8 Tryz.underlying24 hi0 hz0 hz1 (by decide) hz2 rfl (A := B) (n := N) (c := d) (xs := ints (dmN L k)) (fp := q) (by simp [Act.eval]) ⟨wr.heap.size, 0, none⟩ (by simp [Act.eval]) [.int .i64 ((k : Int) + 1)] (((HS.out.1.below ((Below.refl _ _).alloc (Nat.le_refl _) _)).get 0 rfl)) rfl ?_ (by intro u hu; simp at hu; rcases hu with rfl; rfl) (by omega) (by decide) ?_
                       · intro j v hv
                         obtain ⟨hj, rfl⟩ := List.getElem?_eq_some_iff.1 hv
                         obtain rfl : j = 0 := by simpa using hj
                         exact (cell_of_heap (heap_alloc_new _ _) 0).trans rfl
                       intro g c' w5 h1 h2 h3 h4
                       have hq := (HS.out.1.below ((Below.refl _ _).alloc (Nat.le_refl _) _)).upd 0 rfl (i' := .own 3 1 (some ⟨g, 0, none⟩) (N + 1) c' (ints (dmN L k) ++ [Value.int .i64 ((k : Int) + 1)]) [g]) h4 h1 (fun x hx => by
                         rw [List.mem_singleton.1 hx]
                         rcases h2 with h | h
                         · exact .inl h
                         · exact .inr (Nat.le_of_eq h))
                       have HQ := Lib.hid hq
                       clear h1 h2 h3 h4 hq)
          go_roundg (gk - 1)
          case measure => omega
          case rel =>
            have e : dmN L (k + 1) = dmN L k ++ [(k : Int) + 1] := by rw [HS.out.2.2.1]; simp
            refine ⟨k + 1, some ⟨g, 0, none⟩, c', [g], N + 1, by omega, by go_num, rfl, by rw [e, HS.out.2.2.2]; simp, ?_⟩
            rw [e, show ints (dmN L k ++ [(k : Int) + 1]) = ints (dmN L k) ++ [.int .i64 ((k : Int) + 1)] from by simp [ints]]
            exact HQ.out
        · go_wp2_with (go_at_call 80; refine HS.out.2.1.mono ?_; rintro e w2 ⟨rfl, rfl⟩)
          go_roundg (gk - 1)
          case measure => omega
          case rel =>
            have e : dmN L (k + 1) = dmN L k := by rw [HS.out.2.2.1]; simp
            exact ⟨k + 1, B, d, q, N, by omega, by go_num, rfl, by rw [e]; exact HS.out.2.2.2, by rw [e]; exact HS.out.1⟩
      · obtain rfl : k = n := by omega
        have HS := Lib.hid (And.intro oo hNl)
        clear oo hNl
        go_wp2_with fail
        go_ret2
        have e1 : lgDmE s.data.toList = 0 := by rw [H.out.2.2.1, if_neg HN.out.2]
        have e2 : lgDmV s.data.toList = dmN L k := by rw [H.out.2.2.2, if_neg HN.out.2, ← HN.out.1]
        refine ⟨B, d, by rw [e1, e2, ← HS.out.2]; rfl, ?_, ?_, H1.out.2.trans (HS.out.1.bel.mono H1.out.2.size)⟩
        · rw [e2, ← HS.out.2]; exact (HS.out.1.get 0 rfl : OwnS _ _ _ _ _ _ _ _).rd
        · rw [e2]; exact Nat.le_trans (dmN_len L k) hLl
end Go.Proofs.YtaokegobilphnaaGreatDoor
