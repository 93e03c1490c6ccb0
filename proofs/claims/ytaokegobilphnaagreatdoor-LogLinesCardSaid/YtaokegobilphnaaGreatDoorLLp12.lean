/- log.count; polynyaref13.counted, line, close -/
import Derived.Test.YtaokegobilphnaaGreatDoorLLp11
import Derived.Lib.CutLaws
import Derived.Test.YtaokegobilphnaaGreatDoorLLp6
import Derived.Defers
import Derived.Recover
set_option linter.unusedVariables false
set_option linter.unusedSimpArgs false
namespace Go.Proofs.YtaokegobilphnaaGreatDoor
open Go Go.RowKit Go.Shelf Go.Proofs Sp Lg
set_option linter.unusedVariables false
set_option linter.unusedSimpArgs false

theorem num_space {v : By} (h : (32 : UInt8) ∈ v) : numB v = none := num_nodig fun h2 => by
  have := List.all_eq_true.1 h2 32 h
  exact absurd this (by decide)
theorem cut_none {T : By} (h : ¬ (32 : UInt8) ∈ T) : Lib.cut T [32] = (T, [], false) := by
  unfold Lib.cut
  rw [idx_none h, if_neg (by decide)]
theorem cut_at {u v : By} (h : ¬ (32 : UInt8) ∈ u) : Lib.cut (u ++ 32 :: v) [32] = (u, v, true) := by
  unfold Lib.cut
  rw [idx_at h, if_pos (by omega), Int.toNat_natCast, List.take_left, List.length_singleton, ← List.drop_drop, List.drop_left]
  rfl
theorem cnt_eq (T : By) : cntB T = if (Lib.cut T [32]).1 = [76, 79, 71] then numB (Lib.cut T [32]).2.1 else none := by
  by_cases h : (32 : UInt8) ∈ T
  · obtain ⟨u, v, rfl, hu⟩ := List.eq_append_cons_of_mem h
    rw [cut_at hu]
    unfold cntB
    rw [fields_cut hu]
    simp only
    by_cases hv : (32 : UInt8) ∈ v
    · obtain ⟨a, b, rfl, ha⟩ := List.eq_append_cons_of_mem hv
      rw [fields_cut ha, num_space (by simp)]
      cases hf : fields b with
      | nil => exact absurd hf (fields_ne b)
      | cons x r => simp
    · rw [fields_one hv]
  · rw [cut_none h]
    unfold cntB
    rw [fields_one h]
    simp only
    rw [num_short (.inl (by simp))]
    simp
theorem cut_len (T : By) : (Lib.cut T [32]).1.length ≤ T.length ∧ (Lib.cut T [32]).2.1.length ≤ T.length := by
  unfold Lib.cut
  split
  · exact ⟨by rw [List.length_take]; omega, by rw [List.length_drop]; omega⟩
  · exact ⟨Nat.le_refl _, by simp⟩
def CntPost (w : World) (s : By) (e : Ending) (w' : World) : Prop := ∃ v : Nat, e = .returned (.tuple #[.int .i64 v, .bool (cntB s).isSome]) ∧ Below w.heap.size w w' ∧ ∀ n, cntB s = some n → v = n
theorem log_lit : (⟨#[76, 79, 71]⟩ : ByteArray) = bs [76, 79, 71] := rfl
set_option maxRecDepth 100000 in
set_option maxHeartbeats 4000000 in
theorem gCount_any (s : ByteArray) (w : World) (hs : s.size ≤ 1000000) (E : Env w) :
    Calls Tryz.prog 85 #[.string s] w (CntPost w s.data.toList) := by
  have hlen : s.data.toList.length = s.size := Array.length_toList
  obtain ⟨T, hT⟩ : ∃ T, T = s.data.toList := ⟨_, rfl⟩
  obtain ⟨m, hm⟩ := E.1
  have kc := Tryz.strings_Cut s ⟨#[32]⟩ m w (by omega) hm
  rw [show (⟨#[32]⟩ : ByteArray).data.toList = [32] from rfl, ← hT] at kc
  have hc := cnt_eq T
  have hl := cut_len T
  obtain ⟨u, v, b, hq⟩ : ∃ u v b, Lib.cut T [32] = (u, v, b) := ⟨_, _, _, rfl⟩
  rw [hq] at kc hc hl
  simp only at kc hc hl
  obtain ⟨U, hU⟩ : ∃ U, U = bs u := ⟨_, rfl⟩
  obtain ⟨V, hV⟩ : ∃ V, V = bs v := ⟨_, rfl⟩
  have kc2 : Calls Tryz.prog 124 #[.string s, .string ⟨#[32]⟩] w fun e w' => e = .returned (.tuple #[.string U, .string V, .bool b]) ∧ ∃ n, w' = w.drewN n := by rw [hU, hV]; exact kc
  have kn := fun W => gNumber_any V W (by rw [hV, bs_size]; rw [← hT] at hlen; omega)
  rw [show V.data.toList = v from by rw [hV]] at kn
  obtain ⟨x, hx⟩ : ∃ x : Nat, numV v = x ∧ ∀ n, numB v = some n → x = n := by
    cases hn : numB v with
    | none => exact ⟨0, (num_none hn).1, fun n h => by cases h⟩
    | some n => exact ⟨n, (num_some hn).1, fun k h => by injection h⟩
  obtain ⟨ok, hok⟩ : ∃ k, k = numK v := ⟨_, rfl⟩
  rw [hx.1, ← hok] at kn
  obtain ⟨bv, hbv⟩ : ∃ b, b = (U.toList == [76, 79, 71]) := ⟨_, rfl⟩
  have hbv2 : bv = decide (u = [76, 79, 71]) := by rw [hbv, ByteArray.toList_eq, hU]; exact Bool.eq_iff_iff.2 (by simp)
  have hres : (cntB T).isSome = (ok && bv) := by
    rw [hc, hok, hbv2]
    by_cases h : u = [76, 79, 71]
    · rw [if_pos h, decide_eq_true h, Bool.and_true]; rfl
    · rw [if_neg h, decide_eq_false h, Bool.and_false]; rfl
  have hres2 : ∀ n, cntB T = some n → x = n := fun n h => by
    rw [hc] at h
    split at h
    · exact hx.2 n h
    · cases h
  have hne : (U.toList == [76, 79, 71]) = bv := hbv.symm
  rw [← hT]
  have H := Lib.hid (And.intro kc2 (And.intro kn (And.intro hres hres2)))
  clear kc kc2 kn hres hres2 hbv hbv2 hok hx hc hq hU hV hl hT hlen hm
  cases ok
  · go_enter Tryz.func85, Tryz.ntmps85
    go_wp2_with (first
      | (go_at_call 124; refine H.out.1.mono ?_; rintro e w1 ⟨rfl, k, rfl⟩)
      | (go_at_call 125; refine (H.out.2.1 _).mono ?_; rintro e w2 ⟨rfl, rfl⟩))
    go_ret2
    exact ⟨x, by rw [H.out.2.2.1]; rfl, below_drewN (Below.refl _ _) _, H.out.2.2.2⟩
  · go_enter Tryz.func85, Tryz.ntmps85
    go_wp2_with (first
      | (go_at_call 124; refine H.out.1.mono ?_; rintro e w1 ⟨rfl, k, rfl⟩)
      | (go_at_call 125; refine (H.out.2.1 _).mono ?_; rintro e w2 ⟨rfl, rfl⟩))
    go_ret2
    exact ⟨x, by rw [H.out.2.2.1]; rfl, below_drewN (Below.refl _ _) _, H.out.2.2.2⟩
def cntR (s : By) : Int := match cntB s with | some n => n | none => -1
theorem cntR_two {T u r : By} (h : fields T = [u, r]) : cntR T = if u = [76, 79, 71] then numR r else -1 := by
  unfold cntR cntB
  rw [h]
  simp only
  by_cases hu : u = [76, 79, 71]
  · rw [if_pos hu, if_pos hu]; rfl
  · rw [if_neg hu, if_neg hu]
theorem cntR_not {T : By} (h : (fields T).length ≠ 2) : cntR T = -1 := by
  unfold cntR cntB
  match hf : fields T, h with
  | [], _ => rfl
  | [_], _ => rfl
  | [_, _], h => exact absurd rfl h
  | _ :: _ :: _ :: _, _ => rfl
set_option maxRecDepth 100000 in
set_option maxHeartbeats 4000000 in
theorem rCounted_any (s : ByteArray) (w : World) (hs : s.size ≤ 1000000) :
    Calls Tryz.prog 75 #[.string s] w fun e w' => e = .returned (.int .i64 (cntR s.data.toList)) ∧ Below w.heap.size w w' := by
  have hlen : s.data.toList.length = s.size := Array.length_toList
  have ks := rSplit_any s w hs
  obtain ⟨T, hT⟩ : ∃ T, T = s.data.toList := ⟨_, rfl⟩
  obtain ⟨F, hF⟩ : ∃ F, F = fields T := ⟨_, rfl⟩
  obtain ⟨n, hn⟩ : ∃ n, n = F.length := ⟨_, rfl⟩
  rw [← hT, ← hF, ← hn] at ks
  have hfl := fields_len T
  rw [← hF, ← hn] at hfl
  have hTl : T.length ≤ 1000000 := by rw [hT]; omega
  rw [← hT]
  by_cases h2 : n = 2
  · obtain ⟨u, r, hur⟩ : ∃ u r, F = [u, r] := by
      match F, hn with
      | [u, r], _ => exact ⟨u, r, rfl⟩
      | [], h => simp at h; omega
      | [_], h => simp at h; omega
      | _ :: _ :: _ :: _, h => simp at h; omega
    subst h2
    have hcn := cntR_two (show fields T = [u, r] by rw [← hF, hur])
    rw [hur] at ks
    have hrl : r.length ≤ 1000000 := by
      have h5 := join_fields T
      rw [← hF, hur] at h5
      have := congrArg List.length h5
      simp [joinS] at this; omega
    obtain ⟨U, hU⟩ : ∃ U, U = bs u := ⟨_, rfl⟩
    obtain ⟨R, hR⟩ : ∃ U, U = bs r := ⟨_, rfl⟩
    have kn := fun W => rNumber_any R W (by rw [hR, bs_size]; exact hrl)
    rw [show R.data.toList = r from by rw [hR]] at kn
    obtain ⟨x, hx⟩ : ∃ x, x = numR r := ⟨_, rfl⟩
    rw [← hx] at kn hcn
    obtain ⟨bv, hbv⟩ : ∃ b, b = (U.toList == [76, 79, 71]) := ⟨_, rfl⟩
    have hbv2 : bv = decide (u = [76, 79, 71]) := by rw [hbv, ByteArray.toList_eq, hU]; exact Bool.eq_iff_iff.2 (by simp)
    have hres : cntR T = if bv = true then x else -1 := by rw [hcn, hbv2]; simp
    have hne : (U.toList == [76, 79, 71]) = bv := hbv.symm
    have ks2 : Calls Tryz.prog 94 #[.string s] w fun e w' => ∃ g c, e = .returned (.slice (some ⟨g, 0, none⟩) 2 c) ∧ Below w.heap.size w w' ∧ g < w'.heap.size ∧ w'.cell? ⟨g, 0, none⟩ = some (.string U) ∧ w'.cell? ⟨g, 1, none⟩ = some (.string R) := ks.mono fun e w' ⟨B, cB, fq, he, h6, h7, h8⟩ => by
      obtain ⟨g, cur, rfl, _, hh, _, _, _, hcu⟩ := h6.2.resolve_left (by rintro ⟨_, h, _⟩; cases h)
      exact ⟨g, cB, he, h8, heap_lt hh, (cell_of_heap hh 0).trans (hcu 0 _ (by rw [hU]; rfl)), (cell_of_heap hh 1).trans (hcu 1 _ (by rw [hR]; rfl))⟩
    have H := Lib.hid (And.intro ks2 (And.intro kn hres))
    clear ks ks2 kn hres hbv hbv2 hcn hur hF hn hT hlen hU hR hx hrl hfl hTl
    cases bv
    · go_enter Tryz.func75, Tryz.ntmps75
      go_wp2_with (first
        | (go_at_call 94; refine H.out.1.mono ?_; rintro e w1 ⟨g, c, rfl, b1, zg, c0, c1⟩; have H1 := Lib.hid b1; clear b1)
        | (go_at_call 119; refine (H.out.2.1 _).mono ?_; rintro e w2 ⟨rfl, rfl⟩))
      go_ret
      exact ⟨by rw [H.out.2.2]; rfl, H1.out⟩
    · go_enter Tryz.func75, Tryz.ntmps75
      go_wp2_with (first
        | (go_at_call 94; refine H.out.1.mono ?_; rintro e w1 ⟨g, c, rfl, b1, zg, c0, c1⟩; have H1 := Lib.hid b1; clear b1)
        | (go_at_call 119; refine (H.out.2.1 _).mono ?_; rintro e w2 ⟨rfl, rfl⟩))
      go_ret
      exact ⟨by rw [H.out.2.2]; rfl, H1.out⟩
  · have hres : cntR T = -1 := cntR_not (by rw [← hF, ← hn]; exact h2)
    have hb : ((n : Int) != 2) = true := by simp; omega
    have H := Lib.hid (And.intro ks hres)
    clear ks hres hF hn hT hlen h2
    go_enter Tryz.func75, Tryz.ntmps75
    go_wp2_with (go_at_call 94; refine H.out.1.mono ?_; rintro e w1 ⟨B, cB, fq, rfl, _, _, b1⟩; have H1 := Lib.hid b1; clear b1)
    go_ret
    exact ⟨by rw [H.out.2]; rfl, H1.out⟩
def lineV (l : List By) (i : Nat) : By := if lineS l i = 0 then body (l.getD i []) else []
set_option maxRecDepth 100000 in
set_option maxHeartbeats 4000000 in
theorem rLine_any (L : List By) (A : Option Addr) (c i : Nat) (w : World) (hr : Rd w 1 A L.length (strs L)) (hl : ∀ l ∈ L, l.length ≤ 1000000) (hi : i ≤ 1000000) (hL : L.length ≤ 1000000) :
    Calls Tryz.prog 74 #[.slice A L.length c, .int .i64 i] w fun e w' => e = .returned (.tuple #[.string (bs (lineV L i)), .int .i64 (lineS L i)]) ∧ w = w' := by
  obtain ⟨n, hn⟩ : ∃ n, n = L.length := ⟨_, rfl⟩
  rw [← hn]
  rw [← hn] at hr hL
  by_cases h1 : n ≤ i
  · have hS : lineS L i = 3 := by unfold lineS; rw [if_pos (by omega)]
    have hV : lineV L i = [] := by unfold lineV; rw [hS]; rfl
    have H := Lib.hid (And.intro hS hV)
    clear hS hV hn
    go_enter Tryz.func74, Tryz.ntmps74
    go_wp2_with fail
    go_ret2
    exact ⟨by rw [H.out.1, H.out.2]; rfl, rfl⟩
  · have hiL : i < L.length := by omega
    obtain ⟨b, off, rfl, hb, hc⟩ := hr.2 (by omega)
    have hg : L.getD i [] = L[i] := by simp [hiL]
    obtain ⟨f, hf⟩ : ∃ f, f = L[i] := ⟨_, rfl⟩
    obtain ⟨fb, hfb⟩ : ∃ b, b = bs f := ⟨_, rfl⟩
    have c0 := hc i (.string fb) (by rw [hfb, hf]; simp [strs, hiL])
    have kn := rInside_any fb w (by rw [hfb, bs_size, hf]; exact hl _ (List.getElem_mem _))
    rw [show fb.data.toList = f from by rw [hfb]] at kn
    have hS : lineS L i = if inside f = true then 0 else 7 := by unfold lineS; rw [if_neg (by omega), hg, ← hf]
    have hV : lineV L i = if inside f = true then body f else [] := by
      unfold lineV; rw [hS, hg, ← hf]
      cases inside f <;> rfl
    obtain ⟨X, hX⟩ : ∃ X, X = bs (if inside f = true then body f else []) := ⟨_, rfl⟩
    obtain ⟨z, hz⟩ : ∃ z, z = inside f := ⟨_, rfl⟩
    rw [← hX, ← hz] at kn
    rw [← hz] at hS
    have H := Lib.hid (And.intro hS (And.intro hV (And.intro kn (And.intro hX hz))))
    clear hS hV hn hf hfb hc kn hg hX hz
    cases z
    · go_enter Tryz.func74, Tryz.ntmps74
      go_wp2_with (go_at_call 80; refine H.out.2.2.1.mono ?_; rintro e w1 ⟨rfl, rfl⟩)
      go_ret2
      exact ⟨by rw [H.out.1, H.out.2.1, ← H.out.2.2.2.2]; rfl, rfl⟩
    · go_enter Tryz.func74, Tryz.ntmps74
      go_wp2_with (go_at_call 80; refine H.out.2.2.1.mono ?_; rintro e w1 ⟨rfl, rfl⟩)
      go_ret2
      exact ⟨by rw [H.out.1, H.out.2.1, H.out.2.2.2.1]; rfl, rfl⟩
set_option maxRecDepth 100000 in
set_option maxHeartbeats 4000000 in
theorem rClose_any (L : List By) (A : Option Addr) (c i : Nat) (w : World) (hr : Rd w 1 A L.length (strs L)) (hl : ∀ l ∈ L, l.length ≤ 1000000) (hi : i ≤ 1000000) (hL : L.length ≤ 1000000) :
    Calls Tryz.prog 77 #[.slice A L.length c, .int .i64 i] w fun e w' => e = .returned (.tuple #[.int .i64 (closeS L i).1, .int .i64 (closeS L i).2]) ∧ w = w' := by
  have kl := rLine_any L A c i w hr hl hi hL
  obtain ⟨n, hn⟩ : ∃ n, n = L.length := ⟨_, rfl⟩
  rw [← hn]
  rw [← hn] at hr hL kl
  by_cases h1 : n ≤ i
  · have hS : closeS L i = (0, 0) := by unfold closeS; rw [if_pos (by omega)]
    have H := Lib.hid hS
    clear hS hn
    go_enter Tryz.func77, Tryz.ntmps77
    go_wp2_with fail
    go_ret2
    exact ⟨by rw [H.out]; rfl, rfl⟩
  · obtain ⟨er, her⟩ : ∃ e, e = lineS L i := ⟨_, rfl⟩
    have hS : closeS L i = (i + 1, if er ≠ 0 then er else 3) := by unfold closeS; rw [if_neg (by omega), ← her]
    rw [← her] at kl
    have H := Lib.hid (And.intro hS kl)
    clear hS hn kl her
    by_cases h0 : er = 0
    · subst h0
      go_enter Tryz.func77, Tryz.ntmps77
      go_wp2_with (go_at_call 74; refine H.out.2.mono ?_; rintro e w1 ⟨rfl, rfl⟩)
      go_ret2
      exact ⟨by rw [H.out.1]; rfl, rfl⟩
    · have hb : (er == 0) = false := beq_eq_false_iff_ne.2 h0
      go_enter Tryz.func77, Tryz.ntmps77
      go_wp2_with (go_at_call 74; refine H.out.2.mono ?_; rintro e w1 ⟨rfl, rfl⟩)
      go_ret2
      exact ⟨by rw [H.out.1, if_pos h0]; rfl, rfl⟩
end Go.Proofs.YtaokegobilphnaaGreatDoor
/- log's feed: fail, want, next, end -/
namespace Go.Proofs.YtaokegobilphnaaGreatDoor
open Go Go.RowKit Go.Shelf Go.Proofs Sp Lg
set_option linter.unusedVariables false
set_option linter.unusedSimpArgs false

/-- a reading ends so -/
def FailE (line e : Int) : Ending := .panicked [{ v := .iface 178 (.agg #[.int .i64 line, .int .i64 e]), recovered := false }]
theorem fail_any (fb : Nat) (num e : Int) (w : World) (h : w.cell? ⟨fb, 1, none⟩ = some (.int .i64 num)) :
    Calls Tryz.prog 150 #[.pointer (some ⟨fb, 0, none⟩), .int .i64 e] w fun r w' => r = FailE num e ∧ w' = w := by
  go_enter Tryz.func150, Tryz.ntmps150
  go_wp2_with fail
  exact ⟨rfl, rfl, rfl⟩
theorem want_yes (p : Value) (e : Int) (w : World) :
    Calls Tryz.prog 118 #[p, .bool true, .int .i64 e] w fun r w' => r = .returned (.tuple #[]) ∧ w' = w := by
  go_enter Tryz.func118, Tryz.ntmps118
  go_wp2_with fail
  go_end0
  exact ⟨rfl, rfl⟩
theorem want_no (fb : Nat) (num e : Int) (w : World) (h : w.cell? ⟨fb, 1, none⟩ = some (.int .i64 num)) :
    Calls Tryz.prog 118 #[.pointer (some ⟨fb, 0, none⟩), .bool false, .int .i64 e] w fun r w' => r = FailE num e ∧ w' = w := by
  have H := Lib.hid (fail_any fb num e w h)
  go_enter Tryz.func118, Tryz.ntmps118
  go_wp2_with (go_at_call 150; refine H.out.mono ?_; unfold FailE; rintro r w1 ⟨rfl, rfl⟩)
  exact ⟨rfl, rfl, rfl⟩
/-- a feed: what is left of the lines, and the number of the line that was taken last -/
def FeedS (X : List Nat) (D : Nat) (fb : Nat) (num : Nat) (R : List By) (w : World) : Prop :=
  ∃ A c, w.heap[fb]? = some (.cells #[.slice A R.length c, .int .i64 num] 182 (0, 0)) ∧ Rd w 1 A R.length (strs R) ∧ R.length ≤ c ∧ c ≤ 9223372036854775807 ∧ ∀ b off, A = some ⟨b, off, none⟩ → b ≠ fb ∧ b ∉ X ∧ b < D
theorem FeedS.keep {X : List Nat} {D : Nat} {fb num : Nat} {R : List By} {w w' : World} (h : FeedS X D fb num R w) (hb : Below w.heap.size w w') : FeedS X D fb num R w' := by
  obtain ⟨A, c, h1, h2, h3, h4, h5⟩ := h
  exact ⟨A, c, (hb.block fb (heap_lt h1)).trans h1, h2.below hb, h3, h4, h5⟩
theorem FeedS.num {X : List Nat} {D : Nat} {fb num : Nat} {R : List By} {w : World} (h : FeedS X D fb num R w) : w.cell? ⟨fb, 1, none⟩ = some (.int .i64 num) := by
  obtain ⟨A, c, h1, _⟩ := h
  exact (cell_of_heap h1 1).trans rfl
theorem FeedS.lt {X : List Nat} {D : Nat} {fb num : Nat} {R : List By} {w : World} (h : FeedS X D fb num R w) : fb < w.heap.size := by
  obtain ⟨A, c, h1, _⟩ := h
  exact heap_lt h1
theorem FeedS.keepX {X : List Nat} {D : Nat} {fb num : Nat} {R : List By} {w w' : World} {S : List Nat} (h : FeedS X D fb num R w) (hk : Keep S w w') (hf : fb ∉ S) (hS : ∀ x ∈ S, x ∈ X ∨ D ≤ x) : FeedS X D fb num R w' := by
  obtain ⟨A, c, h1, h2, h3, h4, h5⟩ := h
  refine ⟨A, c, (hk.block fb (heap_lt h1) hf).trans h1, hk.rd h2 (fun b off e hm => ?_), h3, h4, h5⟩
  rcases hS b hm with h | h
  · exact (h5 b off e).2.1 h
  · have := (h5 b off e).2.2; omega
/-- the error of the next line -/
def lineE : List By → Int
  | [] => 3
  | l :: _ => if inside l = true then 0 else 7
def LgNxPost (X : List Nat) (D : Nat) (fb num : Nat) (R : List By) (w : World) (e : Ending) (w' : World) : Prop :=
  Keep [fb] w w' ∧ if lineE R = 0 then e = .returned (.string (bs (body (R.headD [])))) ∧ FeedS X D fb (num + 1) R.tail w' else e = FailE (num + 1 : Nat) (lineE R)
set_option maxRecDepth 100000 in
set_option maxHeartbeats 4000000 in
theorem lgNext_any (X : List Nat) (D : Nat) (fb num : Nat) (R : List By) (w : World) (h : FeedS X D fb num R w) (hl : ∀ l ∈ R, l.length ≤ 1000000) (hR : R.length ≤ 1000000) (hn : num ≤ 1000000) (E : Env w) (hE : ∀ w', Keep [fb] w w' → Env w') :
    Calls Tryz.prog 117 #[.pointer (some ⟨fb, 0, none⟩)] w (LgNxPost X D fb num R w) := by
  obtain ⟨A, c, h1, h2, h3, h4, h5⟩ := h
  obtain ⟨n, hn'⟩ : ∃ n, n = R.length := ⟨_, rfl⟩
  rw [← hn'] at h1 h2 h3 hR
  have f0 := (cell_of_heap h1 0).trans rfl
  have f1 := (cell_of_heap h1 1).trans rfl
  have g1 := frozen_of_heap h1 1
  have zf := heap_lt h1
  obtain ⟨W1, hW1⟩ : ∃ W, W = w.setCell ⟨fb, 1, none⟩ (.int .i64 ((num : Int) + 1)) := ⟨_, rfl⟩
  have k1 : Keep [fb] w W1 := by rw [hW1]; exact (Keep.refl [fb] w).setCell (p := ⟨fb, 1, none⟩) (.inl (by simp)) _
  have j1 : W1.heap[fb]? = some (.cells #[.slice A n c, .int .i64 ((num : Int) + 1)] 182 (0, 0)) := by rw [hW1]; exact heap_set h1 1 _
  have r1 : Rd W1 1 A n (strs R) := k1.rd h2 (fun b off e => by simpa using (h5 b off e).1)
  have H := Lib.hid (And.intro k1 (And.intro j1 (And.intro r1 (And.intro hl (And.intro hn' (And.intro h5 hE))))))
  clear k1 j1 r1 hl h1 h2 h5 hE E
  have hnum := Lib.hid (show ((num + 1 : Nat) : Int) = ((num : Nat) : Int) + 1 by omega)
  cases R with
  | nil =>
    have hn0 : n = 0 := by have := H.out.2.2.2.2.1; simpa using this
    have hpos : decide (0 < n) = false := decide_eq_false (by omega)
    clear h3 h4 hR hn0
    go_enter Tryz.func117, Tryz.ntmps117
    go_upto_region 2 with fail
    rw [← hW1]
    have y0 := (cell_of_heap H.out.2.1 0).trans rfl
    have y1 := (cell_of_heap H.out.2.1 1).trans rfl
    clear hW1 f0 f1 g1
    go_wp2_with (go_at_call 118; refine (want_no fb ((num : Int) + 1) 3 W1 y1).mono ?_; unfold FailE; rintro r w2 ⟨rfl, rfl⟩)
    exact ⟨rfl, H.out.1, rfl⟩
  | cons l R =>
    have hn1 : n = R.length + 1 := by have := H.out.2.2.2.2.1; simpa using this
    obtain ⟨b, off, rfl, hb, hc⟩ := H.out.2.2.1.2 (by omega)
    obtain ⟨L, hL⟩ : ∃ b, b = bs l := ⟨_, rfl⟩
    have c0 : W1.cell? ⟨b, off, none⟩ = some (.string L) := hc 0 _ (by rw [hL]; rfl)
    have kc := gContent_any L W1 (by rw [hL, bs_size]; exact H.out.2.2.2.1 l (by simp)) (H.out.2.2.2.2.2.2 W1 H.out.1)
    rw [show L.data.toList = l from by rw [hL]] at kc
    obtain ⟨B, hB⟩ : ∃ b, b = bs (body l) := ⟨_, rfl⟩
    obtain ⟨z, hz⟩ : ∃ z, z = inside l := ⟨_, rfl⟩
    rw [← hB, ← hz] at kc
    have hbf := H.out.2.2.2.2.2.1 b off rfl
    have HC := Lib.hid (And.intro kc (And.intro hB (And.intro hz (And.intro hc (And.intro hb (And.intro hn1 hbf))))))
    clear kc hB hz hc hL hn1 hbf hn'
    go_enter Tryz.func117, Tryz.ntmps117
    go_upto_region 2 with fail
    rw [← hW1]
    have y0 := (cell_of_heap H.out.2.1 0).trans rfl
    have y1 := (cell_of_heap H.out.2.1 1).trans rfl
    have zf1 := heap_lt H.out.2.1
    clear hW1 f0 f1 g1
    have hpos : decide (0 < n) = true := decide_eq_true (by have := HC.out.2.2.2.2.2.1; omega)
    have hn1' : 0 < n := by have := HC.out.2.2.2.2.2.1; omega
    cases z
    · go_wp2_with (first
        | (go_at_call 118; refine (want_yes _ 3 W1).mono ?_; rintro r w2 ⟨rfl, rfl⟩)
        | (go_at_call 79; refine HC.out.1.mono ?_; rintro r w3 ⟨rfl, b3⟩; have m1 := (b3.cell (p := ⟨fb, 1, none⟩) zf1).trans y1; have H3 := Lib.hid b3; clear b3)
        | (go_at_call 118; refine (want_no fb ((num : Int) + 1) 7 w3 m1).mono ?_; unfold FailE; rintro r w4 ⟨rfl, rfl⟩))
      refine ⟨rfl, H.out.1.trans (Keep.of_below (S := []) H3.out) (by simp), ?_⟩
      have hle : lineE (l :: R) = 7 := by show (if inside l = true then (0 : Int) else 7) = 7; rw [← HC.out.2.2.1]; rfl
      rw [hle, if_neg (by decide)]
      rfl
    · by_cases hc1 : c = 1
      · go_wp2_with (first
          | (go_at_call 118; refine (want_yes _ 3 W1).mono ?_; rintro r w2 ⟨rfl, rfl⟩)
          | (go_at_call 79; refine HC.out.1.mono ?_; rintro r w3 ⟨rfl, b3⟩; have m0 := (b3.cell (p := ⟨fb, 0, none⟩) zf1).trans y0; have m1 := (b3.cell (p := ⟨fb, 1, none⟩) zf1).trans y1; have mf := (b3.block fb zf1).trans H.out.2.1; have ff := frozen_of_heap mf 0; have zf3 := heap_lt mf; have H3 := Lib.hid (And.intro b3 mf); clear b3 mf)
          | (go_at_call 118; refine (want_yes _ 7 w3).mono ?_; rintro r w4 ⟨rfl, rfl⟩))
        go_ret
        have hle : lineE (l :: R) = 0 := by show (if inside l = true then (0 : Int) else 7) = 0; rw [← HC.out.2.2.1]; rfl
        have kf : Keep [fb] w (w4.setCell ⟨fb, 0, none⟩ (.slice (some ⟨b, off, none⟩) (n - 1) (0))) := (H.out.1.trans (Keep.of_below (S := []) H3.out.1) (by simp)).setCell (p := ⟨fb, 0, none⟩) (.inl (by simp)) _
        refine ⟨kf, ?_⟩
        rw [if_pos hle]
        refine ⟨by rw [HC.out.2.1]; rfl, some ⟨b, off, none⟩, 0, ?_, ?_, ?_, by omega, ?_⟩
        · have := heap_set H3.out.2 0 (.slice (some ⟨b, off, none⟩) (n - 1) (0))
          have hR1 : R.length = n - 1 := by have := HC.out.2.2.2.2.2.1; omega
          rw [← hR1] at this ⊢
          rw [← hnum.out] at this
          exact this
        · refine ⟨by simp [strs], fun hp => by have := HC.out.2.2.2.2.2.1; have h9 : R.length = 0 := by omega
                                               simp only [List.tail_cons] at hp; omega⟩
        · have := HC.out.2.2.2.2.2.1; show R.length ≤ 0; omega
        · intro b' off' e
          cases e
          exact HC.out.2.2.2.2.2.2
      · go_wp2_with (first
          | (go_at_call 118; refine (want_yes _ 3 W1).mono ?_; rintro r w2 ⟨rfl, rfl⟩)
          | (go_at_call 79; refine HC.out.1.mono ?_; rintro r w3 ⟨rfl, b3⟩; have m0 := (b3.cell (p := ⟨fb, 0, none⟩) zf1).trans y0; have m1 := (b3.cell (p := ⟨fb, 1, none⟩) zf1).trans y1; have mf := (b3.block fb zf1).trans H.out.2.1; have ff := frozen_of_heap mf 0; have zf3 := heap_lt mf; have H3 := Lib.hid (And.intro b3 mf); clear b3 mf)
          | (go_at_call 118; refine (want_yes _ 7 w3).mono ?_; rintro r w4 ⟨rfl, rfl⟩))
        go_ret
        have hle : lineE (l :: R) = 0 := by show (if inside l = true then (0 : Int) else 7) = 0; rw [← HC.out.2.2.1]; rfl
        have kf : Keep [fb] w (w4.setCell ⟨fb, 0, none⟩ (.slice (some ⟨b, off + 1, none⟩) (n - 1) (c - 1))) := (H.out.1.trans (Keep.of_below (S := []) H3.out.1) (by simp)).setCell (p := ⟨fb, 0, none⟩) (.inl (by simp)) _
        refine ⟨kf, ?_⟩
        rw [if_pos hle]
        refine ⟨by rw [HC.out.2.1]; rfl, some ⟨b, off + 1, none⟩, c - 1, ?_, ?_, ?_, by omega, ?_⟩
        · have := heap_set H3.out.2 0 (.slice (some ⟨b, off + 1, none⟩) (n - 1) (c - 1))
          have hR1 : R.length = n - 1 := by have := HC.out.2.2.2.2.2.1; omega
          rw [← hR1] at this ⊢
          rw [← hnum.out] at this
          exact this
        · refine ⟨by simp [strs], fun hp => ⟨b, off + 1, rfl, Nat.lt_of_lt_of_le hb (Nat.le_trans H3.out.1.size (by simp)), fun j u hu => ?_⟩⟩
          have h1 := HC.out.2.2.2.1 (1 + j) u (by rw [Nat.add_comm]; simpa [strs] using hu)
          have h2 := (H3.out.1.cell (p := ⟨b, off + (1 + j), none⟩) hb).trans h1
          rw [show off + (1 + j) = off + 1 + j from by omega] at h2
          exact ((Keep.refl [fb] w4).setCell (p := ⟨fb, 0, none⟩) (.inl (by simp)) _).cell h2 (by simpa using HC.out.2.2.2.2.2.2.1)
        · have := HC.out.2.2.2.2.2.1; show R.length ≤ c - 1; omega
        · intro b' off' e
          cases e
          exact HC.out.2.2.2.2.2.2
/-- the error of what is behind the last line that is due -/
def endE : List By → Int
  | [] => 0
  | l :: R => if lineE (l :: R) = 0 then 3 else lineE (l :: R)
def EndPost (fb num : Nat) (R : List By) (w : World) (e : Ending) (w' : World) : Prop := Keep [fb] w w' ∧ (endE R = 0 → e = .returned (.tuple #[])) ∧ (endE R ≠ 0 → e = FailE (num + 1 : Nat) (endE R))
set_option maxRecDepth 100000 in
set_option maxHeartbeats 4000000 in
theorem end_any (X : List Nat) (D : Nat) (fb num : Nat) (R : List By) (w : World) (h : FeedS X D fb num R w) (hl : ∀ l ∈ R, l.length ≤ 1000000) (hR : R.length ≤ 1000000) (hn : num ≤ 1000000) (E : Env w) (hE : ∀ w', Keep [fb] w w' → Env w') :
    Calls Tryz.prog 116 #[.pointer (some ⟨fb, 0, none⟩)] w (EndPost fb num R w) := by
  have kn := lgNext_any X D fb num R w h hl hR hn E hE
  obtain ⟨A, c, h1, h2, h3, h4, h5⟩ := h
  obtain ⟨n, hn'⟩ : ∃ n, n = R.length := ⟨_, rfl⟩
  rw [← hn'] at h1 h2 h3 hR
  have f0 := (cell_of_heap h1 0).trans rfl
  have zf := heap_lt h1
  cases R with
  | nil =>
    have hn0 : n = 0 := by simpa using hn'
    have hpos : decide (0 < n) = false := decide_eq_false (by omega)
    clear h3 h4 hR hn0 hn' kn h2 hE E h1
    go_enter Tryz.func116, Tryz.ntmps116
    go_wp2_with fail
    go_end0
    exact ⟨Keep.refl _ _, fun _ => rfl, fun h => absurd rfl h⟩
  | cons l R =>
    have hpos : decide (0 < n) = true := decide_eq_true (by rw [hn']; simp)
    unfold LgNxPost at kn
    obtain ⟨er, her⟩ : ∃ e, e = lineE (l :: R) := ⟨_, rfl⟩
    have hend : endE (l :: R) = if er = 0 then 3 else er := by show (if lineE (l :: R) = 0 then 3 else lineE (l :: R)) = _; rw [← her]
    rw [← her] at kn
    by_cases h0 : er = 0
    · subst h0
      rw [if_pos rfl] at hend
      have kn2 : Calls Tryz.prog 117 #[.pointer (some ⟨fb, 0, none⟩)] w fun e w' => ∃ v, e = .returned v ∧ Keep [fb] w w' ∧ w'.cell? ⟨fb, 1, none⟩ = some (.int .i64 (num + 1 : Nat)) := kn.mono fun e w' h => by
        obtain ⟨k1, k2⟩ := h
        rw [if_pos rfl] at k2
        exact ⟨_, k2.1, k1, k2.2.num⟩
      have H := Lib.hid (And.intro kn2 hend)
      clear h3 h4 hR hn' kn kn2 h2 hE E h1 hend her
      go_enter Tryz.func116, Tryz.ntmps116
      go_wp2_with (first
        | (go_at_call 117; refine H.out.1.mono ?_; rintro r w2 ⟨v, rfl, k2, c2⟩; have H2 := Lib.hid k2; clear k2)
        | (go_at_call 150; refine (fail_any fb _ 3 w2 c2).mono ?_; unfold FailE; rintro r w4 ⟨rfl, rfl⟩))
      refine ⟨rfl, H2.out, fun h => ?_, fun _ => ?_⟩
      · rw [H.out.2] at h; cases h
      · rw [H.out.2]; rfl
    · rw [if_neg h0] at hend
      have kn2 : Calls Tryz.prog 117 #[.pointer (some ⟨fb, 0, none⟩)] w fun e w' => e = FailE (num + 1 : Nat) er ∧ Keep [fb] w w' := kn.mono fun e w' h => by
        obtain ⟨k1, k2⟩ := h
        rw [if_neg h0] at k2
        exact ⟨k2, k1⟩
      have H := Lib.hid (And.intro kn2 hend)
      clear h3 h4 hR hn' kn kn2 h2 hE E h1 hend her
      go_enter Tryz.func116, Tryz.ntmps116
      go_wp2_with (go_at_call 117; refine H.out.1.mono ?_; unfold FailE; rintro r w2 ⟨rfl, k2⟩; have H2 := Lib.hid k2; clear k2)
      refine ⟨rfl, H2.out, fun h => ?_, fun _ => ?_⟩
      · rw [H.out.2] at h; exact absurd h h0
      · rw [H.out.2]; rfl
end Go.Proofs.YtaokegobilphnaaGreatDoor
/- slices.AppendSeq and slices.Collect over log.lines -/
namespace Go.Proofs.YtaokegobilphnaaGreatDoor
open Go Go.RowKit Go.Shelf Go.Proofs Sp Lg
attribute [local go_sem] Oper.semAt_some
set_option linter.unusedVariables false
set_option linter.unusedSimpArgs false

set_option maxRecDepth 100000 in
set_option maxHeartbeats 4000000 in
theorem gAppendSeq_any (w0 w : World) (r4 r5 tb : Nat) (o4 o5 : Obj) (h4 : o4.isCells = true) (h5 : o5.isCells = true) (T : By) (hO0 : Own w0.heap.size w0 [.blk r4 o4, .blk r5 o5] w) (ht : w.heap[tb]? = some (.cells #[.string (bs T)] 9 (0, 0))) (htb : w0.heap.size ≤ tb) (hn4 : r4 ≠ tb) (hn5 : r5 ≠ tb) (hT : T.length ≤ 1000000) :
    Calls Tryz.prog 149 #[.slice none 0 0, .func (.func 123) #[] #[.pointer (some ⟨tb, 0, none⟩)]] w fun e w' => ∃ A c q, e = .returned (.slice A (lines T).length c) ∧ Own w0.heap.size w0 [.blk r4 o4, .blk r5 o5, .own 9 1 A (lines T).length c (strs (lines T)) q] w' := by
  have hLl : (lines T).length ≤ 1000000 := Nat.le_trans (lines_few _) hT
  refine (callsIn_wide (n := 9)).1 ?_
  refine callsIn_of_wp_marks Tryz.func149 rfl trivial ?_ rfl
  simp only [Tryz.ntmps149, List.size_toArray, List.length_cons, List.length_nil, Nat.reduceAdd, Nat.reduceSub, Array.replicate_succ, Array.replicate_zero, List.push_toArray, List.append_toArray, List.nil_append, List.cons_append]
  obtain ⟨W1, hW1⟩ : ∃ W, W = w.alloc (.cells #[.slice none 0 0] 36) := ⟨_, rfl⟩
  obtain ⟨ob, hob⟩ : ∃ b, b = w.heap.size := ⟨_, rfl⟩
  have zt := heap_lt ht
  have O1 : Own w0.heap.size w0 [.blk r4 o4, .blk r5 o5, .blk ob (.cells #[.slice none 0 0] 36 (0, 0)), .own 9 1 none 0 0 [] []] W1 := by
    have h := hO0.alloc (.cells #[.slice none 0 0] 36)
    have h2 := h.new (i := .own 9 1 none 0 0 [] []) (Below.refl _ _) (OwnS.nil _ _ _) (by simp [It.fp])
    rw [hW1, hob]
    simpa using h2
  have ht1 : W1.heap[tb]? = some (.cells #[.string (bs T)] 9 (0, 0)) := by rw [hW1]; exact heap_alloc' ht _
  have zt1 := heap_lt ht1
  have hne : ob ≠ tb ∧ r4 ≠ tb ∧ r5 ≠ tb := ⟨by omega, hn4, hn5⟩
  have hno : w0.heap.size ≤ ob := by rw [hob]; exact hO0.lo
  gi_upto_region 1 with fail
  rw [← hW1, ← hob]
  have HO := Lib.hid (And.intro O1 (And.intro ht1 (And.intro hne (And.intro htb hno))))
  clear hW1 hob O1 ht1 ht zt hO0 hne hn4 hn5
  gi_wp2
  refine range_tb rfl (by omega) (gf := 123) (lb := #[.pointer (some ⟨tb, 0, none⟩)]) rfl trivial (enters_of Tryz.func123 (by kernel_rfl) rfl) (lines1_seq tb T W1 HO.out.2.1 hT 1000000 _ hLl (by omega)) (Below.refl _ _) rfl zt1 rfl
    (fun pre W => ∃ (B : Option Addr) (N d : Nat) (q : List Nat), Own w0.heap.size w0 [.blk r4 o4, .blk r5 o5, .blk ob (.cells #[.slice B N d] 36 (0, 0)), .own 9 1 B N d (strs (lnB pre)) q] W ∧ tb ∉ q ∧ N = pre.length)
    ?inv ⟨none, 0, 0, [], HO.out.1, by simp, rfl⟩ (fun x => { tmps := #[.slice none 0 0, .func (.func 123) #[] #[.pointer (some ⟨tb, 0, none⟩)], .pointer (some ⟨ob, 0, none⟩), undef, .slice none 0 0, .string (bs x.1), .func (.func 123) #[] #[.pointer (some ⟨tb, 0, none⟩)], .string (bs x.1), undef, undef, undef, undef, undef], defers := [] }) ?assign ?body ?done
  case inv =>
    rintro pre A C ⟨B, N, d, q, hO, hq, hN⟩ hs
    exact ⟨B, N, d, q, hO.sim hs HO.out.2.2.2.1 HO.out.1.lo (by intro i hi; simp only [List.mem_cons, List.not_mem_nil, or_false] at hi; rcases hi with rfl | rfl | rfl | rfl; exact (by simp [It.fp]; exact fun e => HO.out.2.2.1.2.1 e.symm); exact (by simp [It.fp]; exact fun e => HO.out.2.2.1.2.2 e.symm); exact (by simp [It.fp]; exact fun e => HO.out.2.2.1.1 e.symm); exact hq) (by intro i hi; simp only [List.mem_cons, List.not_mem_nil, or_false] at hi; rcases hi with rfl | rfl | rfl | rfl; exact h4; exact h5; rfl; rfl), hq, hN⟩
  case assign =>
    intro l x W K hK
    gi_wp2
    exact hK
  case body =>
    rintro l pre x W ⟨B, N, d, q, hO, hq, hN⟩ hlen hlt
    obtain ⟨iS, hS0, hS1, hS2, hS3⟩ := info_parts infoStr
    have hNl : N ≤ 1000000 := by omega
    have ho := hO.heap 2 rfl
    have a0 := (cell_of_heap ho 0).trans rfl
    have a2 := frozen_of_heap ho 0
    have zo := heap_lt ho
    obtain ⟨X, hX⟩ : ∃ X, X = bs x.1 := ⟨_, rfl⟩
    have HLT := Lib.hid hlt
    have HH := Lib.hid (And.intro hO (And.intro ho (And.intro hN (And.intro hq hX))))
    rw [← hX]
    clear hO ho hN hq hlt hX
    gi_wp2_with (first
        | (gi_at_builtin
           refine wpListIn_append_S (size := 1) rfl _ _ 36 rfl iS _ 16 Tryz.underlying36 hS0 hS1 hS2 (by decide) hS3 rfl (A := B) (n := N) (c := d) (xs := strs (lnB pre)) (fp := q) (by simp [Act.eval]) ⟨W.heap.size, 0, none⟩ (by simp [Act.eval]) [.string X] (((HH.out.1.below ((Below.refl _ _).alloc (Nat.le_refl _) _)).get 3 rfl)) rfl ?_ (by intro u hu; simp at hu; rcases hu with rfl; rfl) (by omega) (by decide) ?_
           · intro u v hv
             rw [show (⟨W.heap.size, 0, none⟩ : Addr).add u = ⟨W.heap.size, u, none⟩ from by simp [Addr.add]; omega, World.cell?_alloc_new]
             simpa using hv
           intro g c' w10 q1 q2 q3 q4
           have SB := (HH.out.1.below ((Below.refl W.heap.size W).alloc (Nat.le_refl _) (.cells #[.string X] 9))).upd 3 rfl (i' := It.own 9 1 (some ⟨g, 0, none⟩) (N + 1) c' (strs (lnB pre) ++ [Value.string X]) [g]) q4 q1 (fun u hu => by rw [List.mem_singleton.1 hu]; rcases q2 with e | e; exact .inl e; exact .inr (Nat.le_of_eq e))
           have r0 := (cell_of_heap (SB.heap 2 rfl) 0).trans rfl
           have r2 := frozen_of_heap (SB.heap 2 rfl) 0
           have zr := heap_lt (SB.heap 2 rfl)
           have HS := Lib.hid (And.intro SB (And.intro q2 q4))
           clear SB q1 q2 q3 q4))
    obtain ⟨hO, ho, hN, hq, hX⟩ := HH.out
    obtain ⟨SB, q2, q4⟩ := HS.out
    have hlt := HLT.out
    have hKa : Keep q W w10 := ((Keep.refl q W).alloc (.cells #[.string X] 9)).trans q4 (fun g hg => .inl hg)
    have hKb : Keep (ob :: q) W (w10.setCell ⟨ob, 0, none⟩ (.slice (some ⟨g, 0, none⟩) (N + 1) c')) := (hKa.mono (S' := ob :: q) (fun g hg => .inl (by simp [hg]))).setCell (p := ⟨ob, 0, none⟩) (.inl (by simp)) _
    have OF := SB.set 2 (o' := .cells #[.slice (some ⟨g, 0, none⟩) (N + 1) c'] 36 (0, 0)) rfl ((Keep.refl [ob] w10).setCell (p := ⟨ob, 0, none⟩) (.inl (by simp)) (.slice (some ⟨g, 0, none⟩) (N + 1) c')) (heap_set (SB.heap 2 rfl) 0 _)
    have e0 : lnB (pre ++ [x]) = lnB pre ++ [x.1] := by simp [lnB]
    refine ⟨?_, ?_, ?_, ?_⟩
    · refine keepsOthers_of hKb ?_
      intro b hb o h
      rcases List.mem_cons.1 hb with rfl | hb
      · rw [ho] at h; cases h; rfl
      · have hg3 := hO.owns 3 rfl
        rcases hg3.2 with ⟨_, _, _, e⟩ | ⟨g', cur, _, e, hh, _⟩
        · rw [e] at hb; cases hb
        · rw [e] at hb
          obtain rfl : b = g' := by simpa using hb
          rw [hh] at h; cases h; rfl
    · simpa using hKb.size
    · exact hKb.block tb hlt (by simp; exact ⟨fun e => HO.out.2.2.1.1 e.symm, hq⟩)
    · refine ⟨some ⟨g, 0, none⟩, N + 1, c', [g], ?_, ?_, ?_⟩
      · rw [e0, ← strs_snoc, ← hX]; simpa using OF
      · simp only [List.mem_singleton]
        rcases q2 with h | h
        · rintro rfl; exact hq h
        · simp at h; omega
      · simp [hN]
  case done =>
    rintro D xs W hD hxs ⟨B, N, d, q, hO, hq, hN⟩ hK
    have ho := hO.heap 2 rfl
    have a0 := (cell_of_heap ho 0).trans rfl
    have zo := heap_lt ho
    have HA := Lib.hid (And.intro hO (And.intro hN (And.intro hK (And.intro hxs hD))))
    have hqt := Lib.hid hq
    clear hO hN hK hq ho hxs hD
    gi_wp2
    obtain ⟨hO, hN, hK, hxs, hD⟩ := HA.out
    refine ⟨by simp, .inl ⟨_, _, rfl, run_takeDeferred hK, ?_⟩⟩
    have hq := hqt.out
    have hO2 := hO.sim (Sim.put (B := D) (tb := tb) (l := D) (o := .deferred (some [])) (o' := .deferred none) (Nat.le_refl _) hK rfl) HO.out.2.2.2.1 (by have := HO.out.1.lo; omega) (by intro i hi; simp only [List.mem_cons, List.not_mem_nil, or_false] at hi; rcases hi with rfl | rfl | rfl | rfl; exact (by simp [It.fp]; exact fun e => HO.out.2.2.1.2.1 e.symm); exact (by simp [It.fp]; exact fun e => HO.out.2.2.1.2.2 e.symm); exact (by simp [It.fp]; exact fun e => HO.out.2.2.1.1 e.symm); exact hq) (by intro i hi; simp only [List.mem_cons, List.not_mem_nil, or_false] at hi; rcases hi with rfl | rfl | rfl | rfl; exact h4; exact h5; rfl; rfl)
    have hl : N = (lines T).length := by rw [hN, ← hxs]; simp [lnB]
    refine ⟨_, results_tmp rfl _ _ _, ?_⟩
    rw [hxs, hl] at hO2
    refine ⟨B, d, q, ?_, ?_⟩
    · rw [← hl]; rfl
    · have h3 := hO2
      refine ⟨h3.bel, h3.lo, fun a i hi => ?_, fun a b i j hi hj hab => ?_⟩
      · match a, hi with
        | 0, hi => exact h3.at_ 0 i hi
        | 1, hi => exact h3.at_ 1 i hi
        | 2, hi => exact h3.at_ 3 i hi
        | a + 3, hi => simp at hi
      · have sh : ∀ (a : Nat) (i : It), [It.blk r4 o4, .blk r5 o5, .own 9 1 B (lines T).length d (strs (lines T)) q][a]? = some i → [It.blk r4 o4, .blk r5 o5, .blk ob (.cells #[.slice B (lines T).length d] 36 (0, 0)), .own 9 1 B (lines T).length d (strs (lines T)) q][if a < 2 then a else a + 1]? = some i := by
          intro a i hi
          match a, hi with
          | 0, hi => exact hi
          | 1, hi => exact hi
          | 2, hi => exact hi
          | a + 3, hi => simp at hi
        exact h3.dis _ _ i j (sh a i hi) (sh b j hj) (by split <;> split <;> omega)
theorem gCollect_any (w0 w : World) (r4 r5 tb : Nat) (o4 o5 : Obj) (h4 : o4.isCells = true) (h5 : o5.isCells = true) (T : By) (hO0 : Own w0.heap.size w0 [.blk r4 o4, .blk r5 o5] w) (ht : w.heap[tb]? = some (.cells #[.string (bs T)] 9 (0, 0))) (htb : w0.heap.size ≤ tb) (hn4 : r4 ≠ tb) (hn5 : r5 ≠ tb) (hT : T.length ≤ 1000000) :
    Calls Tryz.prog 115 #[.func (.func 123) #[] #[.pointer (some ⟨tb, 0, none⟩)]] w fun e w' => ∃ A c q, e = .returned (.slice A (lines T).length c) ∧ Own w0.heap.size w0 [.blk r4 o4, .blk r5 o5, .own 9 1 A (lines T).length c (strs (lines T)) q] w' := by
  have H := Lib.hid (gAppendSeq_any w0 w r4 r5 tb o4 o5 h4 h5 T hO0 ht htb hn4 hn5 hT)
  clear ht hO0
  go_enter Tryz.func115, Tryz.ntmps115
  go_wp2_with (go_at_call 149; refine H.out.mono ?_; rintro e w1 ⟨A, c, q, rfl, hq⟩; have HQ := Lib.hid hq; clear hq)
  go_ret
  exact ⟨A, c, q, rfl, HQ.out⟩
end Go.Proofs.YtaokegobilphnaaGreatDoor
/- log.read: the deferred closure, and the whole -/
namespace Go.Proofs.YtaokegobilphnaaGreatDoor
open Go Go.RowKit Go.Shelf Go.Proofs Sp Lg
set_option linter.unusedVariables false
set_option linter.unusedSimpArgs false

theorem wp_letter {P : Program} {c : Code} {Q : Exit → Act → World → Prop} {a : Act} {w : World} (h : ∀ Q', Q' = Q → Code.wp P c Q' a w) : Code.wp P c Q a w := h Q rfl
set_option maxRecDepth 100000 in
theorem catch_idle (p q : Addr) (w : World) :
    CallsD Tryz.prog 114 #[.pointer (some p), .pointer (some q)] .returning w fun e u' w' => e = .returned (.tuple #[]) ∧ u' = .returning ∧ w' = w := by
  have hnil : ∀ w : World, (binOp BinOp.eql 20 .nilIface .nilIface).run Tryz.prog w = .ok (.bool true) w := fun _ => by kernel_rfl
  refine callsD_of_wpS Tryz.func114 rfl fun c₀ cs hu => ?_
  apply wpS_seq
  apply wpS_region
  simp [wpOpsS, go_sem, recoverD, hu, Tryz.ntmps114, Exit.thenS]
  refine wpS_of_wp ?_
  simp only [Array.replicate_succ, Array.replicate_zero, List.push_toArray, List.append_toArray, List.nil_append, List.cons_append, List.setIfInBounds_toArray, List.set_cons_succ, List.set_cons_zero]
  obtain ⟨Q, hQ⟩ : ∃ Q : Exit → Act → World → Prop, Q = fun e a' w' => bodyPostS Tryz.prog Tryz.f114 c₀ cs (fun e u' w' => e = Ending.returned (Value.tuple #[]) ∧ u' = FrameMode.returning ∧ w' = w) e a' (c₀ :: cs) w' := ⟨_, rfl⟩
  show Code.wp _ _ (fun e a' w' => bodyPostS Tryz.prog Tryz.f114 c₀ cs (fun e u' w' => e = Ending.returned (Value.tuple #[]) ∧ u' = FrameMode.returning ∧ w' = w) e a' (c₀ :: cs) w') _ _
  rw [← hQ]
  have HQ := Lib.hid (And.intro hQ hu)
  clear hQ hu
  go_wp2_with fail
  rw [HQ.out.1]
  have hu := HQ.out.2
  cases c₀
  simp_all [bodyPostS, results, Tryz.results114]
set_option maxRecDepth 100000 in
set_option maxHeartbeats 4000000 in
theorem catch_fail (r4 r5 : Nat) (line er x4 x5 : Int) (older : List PanicEntry) (w : World) (h4 : w.heap[r4]? = some (.cells #[.int .i64 x4] 3 (0, 0))) (h5 : w.heap[r5]? = some (.cells #[.int .i64 x5] 29 (0, 0))) (hne : r4 ≠ r5) :
    CallsD Tryz.prog 114 #[.pointer (some ⟨r4, 0, none⟩), .pointer (some ⟨r5, 0, none⟩)] (.panicking ({ v := .iface 178 (.agg #[.int .i64 line, .int .i64 er]), recovered := false } :: older)) w fun e u' w' =>
      e = .returned (.tuple #[]) ∧ u' = .panicking ({ v := .iface 178 (.agg #[.int .i64 line, .int .i64 er]), recovered := true } :: older) ∧ Keep [r4, r5] w w' ∧ w'.heap[r4]? = some (.cells #[.int .i64 line] 3 (0, 0)) ∧ w'.heap[r5]? = some (.cells #[.int .i64 er] 29 (0, 0)) := by
  have hnil : ∀ (v : Value) (w : World), (binOp BinOp.eql 20 (.iface 178 v) .nilIface).run Tryz.prog w = .ok (.bool false) w := fun _ _ => by kernel_rfl
  have hta : ∀ (v : Value) (w : World), (Instr.typeAssert (.iface 178 v) 20 178 true).run Tryz.prog w = .ok (.tuple #[v, .bool true]) w := fun _ _ => by kernel_rfl
  have a4 := (cell_of_heap h4 0).trans rfl
  have a5 := (cell_of_heap h5 0).trans rfl
  have f4 := frozen_of_heap h4 0
  have f5 := frozen_of_heap h5 0
  have z4 := heap_lt h4
  have z5 := heap_lt h5
  have HH := Lib.hid (And.intro h4 h5)
  clear h4 h5
  refine callsD_of_wpS Tryz.func114 rfl fun c₀ cs hu => ?_
  apply wpS_seq
  apply wpS_region
  simp [wpOpsS, go_sem, recoverD, hu, Tryz.ntmps114, Exit.thenS]
  refine wpS_of_wp ?_
  simp only [Array.replicate_succ, Array.replicate_zero, List.push_toArray, List.append_toArray, List.nil_append, List.cons_append, List.setIfInBounds_toArray, List.set_cons_succ, List.set_cons_zero]
  refine wp_letter fun Q hQ => ?_
  have HQ := Lib.hid (And.intro hQ hu)
  clear hQ hu
  have hne' : ¬ r5 = r4 := fun e => hne e.symm
  go_upto_region 7 with fail
  go_region
  have kf : Keep [r4, r5] w (((w.setCell ⟨r4, 0, none⟩ (.int .i64 line)).setCell ⟨r5, 0, none⟩ (.int .i64 er)).alloc (.cells #[.int .i64 line, .int .i64 er] 178)).drew :=
    ((((Keep.refl [r4, r5] w).setCell (p := ⟨r4, 0, none⟩) (.inl (by simp)) _).setCell (p := ⟨r5, 0, none⟩) (.inl (by simp)) _).alloc _).drew
  have e4 : (((w.setCell ⟨r4, 0, none⟩ (.int .i64 line)).setCell ⟨r5, 0, none⟩ (.int .i64 er)).alloc (.cells #[.int .i64 line, .int .i64 er] 178)).drew.heap[r4]? = some (.cells #[.int .i64 line] 3 (0, 0)) :=
    heap_alloc' (heap_set_ne (heap_set HH.out.1 0 _) (by exact hne) _) _
  have e5 : (((w.setCell ⟨r4, 0, none⟩ (.int .i64 line)).setCell ⟨r5, 0, none⟩ (.int .i64 er)).alloc (.cells #[.int .i64 line, .int .i64 er] 178)).drew.heap[r5]? = some (.cells #[.int .i64 er] 29 (0, 0)) :=
    heap_alloc' (heap_set (heap_set_ne HH.out.2 (by exact hne') _) 0 _) _
  simp only [Exit.inBlock]
  rw [HQ.out.1]
  cases c₀
  simp [bodyPostS, results, Tryz.results114]
  exact ⟨kf, e4, e5⟩
/-- what a reader leaves: nothing has changed but the feed and the blocks Sx; it has failed, or taken N lines -/
def DueR (Sx : List Nat) (fb : Nat) (L : List By) (er : Nat × Int) (N : Nat) (J : Nat → World → Prop) (W : World) (e : Ending) (w' : World) : Prop :=
  Keep (fb :: Sx) W w' ∧ (er.2 = 0 → e = .returned (.tuple #[]) ∧ FeedS (fb :: Sx) W.heap.size fb N (L.drop N) w' ∧ J fb w') ∧ (er.2 ≠ 0 → e = FailE er.1 er.2)
/-- the line and the error in which a reading ends -/
def rdRes (T : By) (er : Nat × Int) (N : Nat) : Nat × Int := if 131072 < T.length then (0, 2) else if er.2 ≠ 0 then er else closeS (lines T) N
def ReadPost (w0 w : World) (T : By) (er : Nat × Int) (N : Nat) (J : Nat → World → Prop) (e : Ending) (w' : World) : Prop :=
  e = .returned (.tuple #[.int .i64 (rdRes T er N).1, .int .i64 (rdRes T er N).2]) ∧ Below w0.heap.size w0 w' ∧ ((rdRes T er N).2 = 0 → ∃ fb, w.heap.size ≤ fb ∧ J fb w')
theorem end_close (L : List By) (N : Nat) : closeS L N = if endE (L.drop N) = 0 then (0, 0) else (N + 1, endE (L.drop N)) := by
  unfold closeS
  by_cases h : L.length ≤ N
  · rw [if_pos h, List.drop_eq_nil_of_le h]; rfl
  · have hN : N < L.length := by omega
    rw [if_neg h, List.drop_eq_getElem_cons hN]
    have hl : lineS L N = lineE (L[N] :: L.drop (N + 1)) := by
      unfold lineS lineE
      rw [if_neg h]
      simp [hN]
    show _ = if endE (L[N] :: L.drop (N + 1)) = 0 then ((0 : Nat), (0 : Int)) else (N + 1, endE (L[N] :: L.drop (N + 1)))
    unfold endE
    simp only
    rw [hl]
    by_cases h0 : lineE (L[N] :: L.drop (N + 1)) = 0
    · rw [if_neg (not_not_intro h0), if_pos h0, if_neg (by decide)]
    · rw [if_neg h0, if_neg h0, if_pos h0]
theorem read_results {F : Func} {r s : Nat} (hF : F.results = #[.cell r 3, .cell s 29]) {W : World} {b c : Nat} {v u : Int} (h : W.heap[b]? = some (.cells #[.int .i64 v] 3 (0, 0))) (h2 : W.heap[c]? = some (.cells #[.int .i64 u] 29 (0, 0))) (tmps : Array Value) (hr : tmps.getD r undef = .pointer (some ⟨b, 0, none⟩)) (hs : tmps.getD s undef = .pointer (some ⟨c, 0, none⟩)) :
    (results F tmps).run Tryz.prog W = .ok (.tuple #[.int .i64 v, .int .i64 u]) W := by
  have g8 : tmps[r]?.getD undef = .pointer (some ⟨b, 0, none⟩) := by simpa using hr
  have g9 : tmps[s]?.getD undef = .pointer (some ⟨c, 0, none⟩) := by simpa using hs
  have c0 : W.cell? ⟨b, 0, none⟩ = some (.int .i64 v) := (cell_of_heap h 0).trans rfl
  have c1 : W.cell? ⟨c, 0, none⟩ = some (.int .i64 u) := (cell_of_heap h2 0).trans rfl
  simp [results, hF, g8, g9, asAddr, go_sem, c0, c1]
end Go.Proofs.YtaokegobilphnaaGreatDoor
