/- polynyaref13.PrintLog -/
import Derived.Test.YtaokegobilphnaaGreatDoorLLp8
import Derived.Test.YtaokegobilphnaaGreatDoorLLp7
import Derived.Test.YtaokegobilphnaaGreatDoorLLp2
import Derived.Lib.BufferRead
import Derived.Test.YtaokegobilphnaaGreatDoorLLp4
import Derived.BigQuiet
import Derived.Deep.QuietTactic
set_option linter.unusedVariables false
set_option linter.unusedSimpArgs false
namespace Go.Proofs.YtaokegobilphnaaGreatDoor
open Go Go.RowKit Go.Shelf Go.Proofs Sp Lg
set_option linter.unusedVariables false
set_option linter.unusedSimpArgs false

set_option maxRecDepth 100000 in
set_option maxHeartbeats 4000000 in
theorem rPrintLog_any (L : List EnM) (A : Option Addr) (c : Nat) (w : World) (hr : Rd w 5 A L.length (entsV L)) (hE : EnsOk w L) (hS : EnsSm L) (hl : L.length ≤ 1000000) :
    Calls Tryz.prog 14 #[.slice A L.length c] w (PlPost w (exs L)) := by
  have kc := rCheck_any L A c w hr hE hS hl
  have hxl : (exs L).length = L.length := by simp [exs]
  obtain ⟨n, hn⟩ : ∃ n, n = L.length := ⟨_, rfl⟩
  obtain ⟨er, her⟩ : ∃ e, e = ckL (exs L) := ⟨_, rfl⟩
  rw [← hn, ← her] at kc
  rw [← hn]
  rw [← hn] at hr hl hxl
  by_cases h0 : er = 0
  · have hok := ckL_ok (her.symm.trans h0)
    subst h0
    have hV : plV (exs L) = plN (exs L) n := by unfold plV; rw [← her, if_pos rfl, hxl]
    have hn5 : n ≤ 500 := by rw [← hxl]; exact hok.1
    have H := Lib.hid (And.intro hr (And.intro hE (And.intro hS (And.intro hxl (And.intro hn (And.intro kc (And.intro True.intro (And.intro hok.2 (And.intro hV her)))))))))
    clear hr hE hS hxl hn kc hok hV her
    obtain ⟨J, hJ⟩ : ∃ J, J = bs (Lib.decDigits n) := ⟨_, rfl⟩
    have zJ : J.size ≤ 100 := by rw [hJ, bs_size]; have := dec_short 2 n (by omega); omega
    have kj : ∀ W, Calls Tryz.prog 70 #[.int .i64 n] W fun e w' => e = .returned (.string J) ∧ W = w' := fun W => by
      rw [hJ]; exact rDec1_any n (Nat.lt_of_le_of_lt hn5 (by decide)) W
    obtain ⟨S0, hS0⟩ : ∃ S, S = bs (plN (exs L) 0) := ⟨_, rfl⟩
    have kh : ∀ W, Calls Tryz.prog 69 #[.string (⟨#[76, 79, 71, 32]⟩ ++ J)] W fun e w' => e = .returned (.string S0) ∧ W = w' := fun W => by
      have h := rWhole_any (⟨#[76, 79, 71, 32]⟩ ++ J) W (by rw [ByteArray.size_append]; have : (⟨#[76, 79, 71, 32]⟩ : ByteArray).size = 4 := rfl; omega)
      refine h.mono ?_
      rintro e w' ⟨rfl, hb⟩
      refine ⟨?_, hb⟩
      rw [hS0]
      unfold plN
      rw [H.out.2.2.2.1, hJ, show (⟨#[76, 79, 71, 32]⟩ : ByteArray) = bs [76, 79, 71, 32] from rfl, bs_app]
      simp
    have HK := Lib.hid (And.intro kj (And.intro kh (And.intro hJ hS0)))
    clear kj kh hJ hS0
    go_enter Tryz.func14, Tryz.ntmps14
    go_wp2_with (first
      | (go_at_call 12; refine H.out.2.2.2.2.2.1.mono ?_; rintro e w1 ⟨rfl, b1⟩; have H1 := Lib.hid b1; clear b1)
      | (go_at_call 70; refine (HK.out.1 w1).mono ?_; rintro e W2 ⟨rfl, rfl⟩)
      | (go_at_call 69; refine (HK.out.2.1 w1).mono ?_; rintro e W3 ⟨rfl, rfl⟩))
    go_loopg [5, 6] n (fun g s i wr => ∃ k : Nat, g + k = n ∧ i = .int .i64 k ∧ s = .string (bs (plN (exs L) k)) ∧ Below w.heap.size w wr)
    case atStart => exact ⟨0, rfl, rfl, by rw [HK.out.2.2.2], H1.out⟩
    case round =>
      obtain ⟨k, hk, rfl, rfl, kb⟩ := hrel
      by_cases hlt : k < n
      · have hkL : k < L.length := by have := H.out.2.2.2.2.1; omega
        obtain ⟨b5, off, rfl, hb5, hc⟩ := H.out.1.2 (by omega)
        have zb := Nat.lt_of_lt_of_le hb5 kb.size
        obtain ⟨E, hE⟩ : ∃ E, E = L[k] := ⟨_, rfl⟩
        have ct : ∀ j u, j < 5 → (entL E)[j]? = some u → wr.cell? ⟨b5, off + k * 5 + j, none⟩ = some u := fun j u hj hu => by
          rw [Nat.add_assoc]
          exact (kb.cell (p := ⟨b5, off + (k * 5 + j), none⟩) hb5).trans (hc _ _ (by unfold entsV; rw [flatE_get hkL hj, ← hE]; exact hu))
        obtain ⟨m, hm⟩ : ∃ m, m = E.x.minute := ⟨_, rfl⟩
        obtain ⟨p, hp⟩ : ∃ m, m = E.x.ship := ⟨_, rfl⟩
        obtain ⟨V, hV⟩ : ∃ m, m = bs E.x.verb := ⟨_, rfl⟩
        obtain ⟨N, hN⟩ : ∃ m, m = bs E.x.note := ⟨_, rfl⟩
        obtain ⟨a, ha⟩ : ∃ m, m = E.x.args.length := ⟨_, rfl⟩
        obtain ⟨AA, hAA⟩ : ∃ m, m = E.A := ⟨_, rfl⟩
        obtain ⟨cc, hcc⟩ : ∃ m, m = E.c := ⟨_, rfl⟩
        have c0 : wr.cell? ⟨b5, off + k * 5, none⟩ = some (.int .i64 m) := ct 0 _ (by decide) (by rw [hm]; rfl)
        have c1 : wr.cell? ⟨b5, off + k * 5 + 1, none⟩ = some (.int .i64 p) := ct 1 _ (by decide) (by rw [hp]; rfl)
        have c2 : wr.cell? ⟨b5, off + k * 5 + 2, none⟩ = some (.string V) := ct 2 _ (by decide) (by rw [hV]; rfl)
        have c3 : wr.cell? ⟨b5, off + k * 5 + 3, none⟩ = some (.slice AA a cc) := ct 3 _ (by decide) (by rw [ha, hAA, hcc]; rfl)
        have c4 : wr.cell? ⟨b5, off + k * 5 + 4, none⟩ = some (.string N) := ct 4 _ (by decide) (by rw [hN]; rfl)
        have hmem : E ∈ L := by rw [hE]; exact List.getElem_mem _
        have hexm : E.x ∈ exs L := List.mem_map.2 ⟨E, hmem, rfl⟩
        have hOk := H.out.2.2.2.2.2.2.2.1 E.x hexm
        have hen : entC E.x E.A E.c = #[.int .i64 m, .int .i64 p, .string V, .slice AA a cc, .string N] := by unfold entC; rw [hm, hp, hV, hN, ha, hAA, hcc]
        obtain ⟨TT, hTT⟩ : ∃ T, T = bs (told E.x) := ⟨_, rfl⟩
        have kc := rTold_any E.x E.A E.c wr hOk ((H.out.2.1 E hmem).below kb)
        rw [hen, ← hTT] at kc
        obtain ⟨TW, hTW⟩ : ∃ T, T = bs (whole (told E.x)) := ⟨_, rfl⟩
        have kh : ∀ W, Calls Tryz.prog 69 #[.string TT] W fun e w' => e = .returned (.string TW) ∧ W = w' := fun W => by
          have h := rWhole_any TT W (by rw [hTT, bs_size]; have := told_len hOk; omega)
          rw [show TT.data.toList = told E.x from by rw [hTT], ← hTW] at h
          exact h
        have zTW : TW.size ≤ 1000000 := by rw [hTW, bs_size, whole_len]; have := told_len hOk; omega
        have hkx : k < (exs L).length := by rw [H.out.2.2.2.1]; exact hlt
        have hnx : plN (exs L) (k + 1) = plN (exs L) k ++ whole (told E.x) := by
          rw [plN_next hkx]
          congr 3
          simp [exs, hE]
        obtain ⟨S, hS⟩ : ∃ S, S = bs (plN (exs L) k) := ⟨_, rfl⟩
        have zS : S.size ≤ 1000000 := by rw [hS, bs_size]; exact plN_len H.out.2.2.2.2.2.2.2.1 (by rw [H.out.2.2.2.1]; exact hn5) k
        have hnx2 : S ++ TW = bs (plN (exs L) (k + 1)) := by rw [hnx, ← bs_app, ← hS, ← hTW]
        rw [← hS]
        have HB := Lib.hid (And.intro kb (And.intro kc (And.intro kh hnx2)))
        clear kb kc kh hnx hnx2 hkx hOk hE hexm hmem hm hp hV hN ha hAA hcc hen ct hc hTT hTW hS
        go_wp2_with (first
          | (go_at_call 52; refine HB.out.2.1.mono ?_; rintro e W5 ⟨rfl, b5'⟩; have HC1 := Lib.hid (HB.out.1.trans (b5'.mono HB.out.1.size)); clear b5')
          | (go_at_call 69; refine (HB.out.2.2.1 W5).mono ?_; rintro e W6 ⟨rfl, rfl⟩))
        go_roundg (gk - 1)
        case measure => omega
        case rel => exact ⟨k + 1, by omega, by go_num, by rw [HB.out.2.2.2], HC1.out⟩
      · obtain rfl : k = n := by omega
        have HB := Lib.hid kb
        clear kb
        go_wp2_with fail
        go_ret2
        exact ⟨by rw [H.out.2.2.2.2.2.2.2.2.1, ← H.out.2.2.2.2.2.2.2.2.2]; rfl, HB.out⟩
  · have hne : (er == 0) = false := beq_eq_false_iff_ne.2 h0
    have hne2 : (er != 0) = true := by simpa using h0
    have hV : plV (exs L) = [] := by unfold plV; rw [← her, if_neg h0]
    have H := Lib.hid (And.intro kc (And.intro hV her))
    clear kc hV her hr hE hS hxl hn
    go_enter Tryz.func14, Tryz.ntmps14
    go_wp2_with (go_at_call 12; refine H.out.1.mono ?_; rintro e w1 ⟨rfl, b1⟩; have H1 := Lib.hid b1; clear b1)
    go_ret2
    exact ⟨by rw [H.out.2.1, ← H.out.2.2]; rfl, H1.out⟩
end Go.Proofs.YtaokegobilphnaaGreatDoor
/- log.hex; Unquote's plain step -/
namespace Go.Proofs.YtaokegobilphnaaGreatDoor
open Go Go.RowKit Go.Shelf Go.Proofs Sp Lg
set_option linter.unusedVariables false
set_option linter.unusedSimpArgs false

def hexI (b : UInt8) : Int := Lib.indexByte [48, 49, 50, 51, 52, 53, 54, 55, 56, 57, 97, 98, 99, 100, 101, 102] b
theorem hexI_eq (b : UInt8) : (if 0 ≤ hexI b then hexI b else 1024) = (hexv b : Int) := by
  have : ∀ n : Fin 256, (if 0 ≤ hexI (UInt8.ofNat n.1) then hexI (UInt8.ofNat n.1) else 1024) = (hexv (UInt8.ofNat n.1) : Int) := by decide +kernel
  have h := this ⟨b.toNat, b.toNat_lt⟩
  simpa using h
theorem hexv_le (b : UInt8) : hexv b ≤ 1024 := by unfold hexv; split <;> (try split) <;> omega
set_option maxRecDepth 100000 in
set_option maxHeartbeats 4000000 in
theorem gHex_any (b : UInt8) (w : World) :
    Calls Tryz.prog 83 #[.int .u8 b.toNat] w fun e w' => e = .returned (.int .i64 (hexv b)) ∧ w = w' := by
  have hk := Tryz.strings_IndexByte (bs [48, 49, 50, 51, 52, 53, 54, 55, 56, 57, 97, 98, 99, 100, 101, 102]) b.toNat w
  have e1 : (b.toNat : Int).toNat.toUInt8 = b := by simp
  rw [e1] at hk
  obtain ⟨x, hx⟩ : ∃ x, x = hexI b := ⟨_, rfl⟩
  have hk2 : Calls Tryz.prog 122 #[.string ⟨#[48, 49, 50, 51, 52, 53, 54, 55, 56, 57, 97, 98, 99, 100, 101, 102]⟩, .int .u8 b.toNat] w fun e w' => e = .returned (.int .i64 x) ∧ w' = w := by rw [hx]; exact hk
  have he := hexI_eq b
  rw [← hx] at he
  obtain ⟨n, hn⟩ : ∃ n, n = b.toNat := ⟨_, rfl⟩
  rw [← hn] at hk2 ⊢
  have H := Lib.hid (And.intro hk2 he)
  clear hk hk2 he hx hn e1
  by_cases h1 : 0 ≤ x
  · go_enter Tryz.func83, Tryz.ntmps83
    go_wp2_with (go_at_call 122; refine H.out.1.mono ?_; rintro e w1 ⟨rfl, rfl⟩)
    go_ret
    exact ⟨by rw [← H.out.2, if_pos h1]; rfl, rfl⟩
  · go_enter Tryz.func83, Tryz.ntmps83
    go_wp2_with (go_at_call 122; refine H.out.1.mono ?_; rintro e w1 ⟨rfl, rfl⟩)
    go_ret
    exact ⟨by rw [← H.out.2, if_neg (by omega)]; rfl, rfl⟩
/-- one byte of a note is read: the byte, and where the next one begins -/
def stepU (s : By) (i : Nat) : Option (UInt8 × Nat) :=
  if s.getD i 0 ≠ 92 then some (s.getD i 0, i + 1)
  else if s.getD (i + 1) 0 = 110 then some (10, i + 2)
  else if s.getD (i + 1) 0 ≠ 120 then some (s.getD (i + 1) 0, i + 2)
  else if s.length ≤ i + 3 then none
  else if 255 < 16 * hexv (s.getD (i + 2) 0) + hexv (s.getD (i + 3) 0) then none
  else some (UInt8.ofNat (16 * hexv (s.getD (i + 2) 0) + hexv (s.getD (i + 3) 0)), i + 4)
theorem getD_app (u v : By) (k i : Nat) (h : i = u.length + k) : (u ++ v).getD i 0 = v.getD k 0 := by
  subst h
  rw [List.getD_eq_getElem?_getD, List.getElem?_append_right (by omega), Nat.add_sub_cancel_left, ← List.getD_eq_getElem?_getD]
theorem stepU_one (u t : By) (c : UInt8) (i : Nat) (hi : i = u.length) (ht : t ≠ []) : stepU (u ++ (one c ++ t)) i = some (c, i + (one c).length) := by
  have g : ∀ k, (u ++ (one c ++ t)).getD (i + k) 0 = (one c ++ t).getD k 0 := fun k => getD_app u _ k _ (by omega)
  have g0 : (u ++ (one c ++ t)).getD i 0 = (one c ++ t).getD 0 0 := g 0
  have hl : (u ++ (one c ++ t)).length = i + (one c).length + t.length := by simp [hi]; omega
  have tl : 1 ≤ t.length := List.length_pos_iff.2 ht
  unfold stepU
  rw [g0, g, g, g, hl]
  unfold one
  split
  · rename_i h; subst h; rfl
  · split
    · rename_i h; subst h; rfl
    · split
      · rename_i h; subst h; rfl
      · split
        · rename_i h; subst h; rfl
        · split
          · have h1 : c.toNat < 256 := c.toNat_lt
            simp only [List.cons_append, List.getD_cons_zero, List.getD_cons_succ, List.length_cons, List.length_nil]
            rw [hexv_hexd (by omega), hexv_hexd (by omega), show 16 * (c.toNat / 16) + c.toNat % 16 = c.toNat from by omega]
            rw [if_neg (by simp), if_neg (by decide), if_neg (by simp), if_neg (by omega), if_neg (by omega)]
            simp
          · rename_i h10 h34 h42 h92 hb
            simp [h92]
theorem unq_step {s n : By} {i j : Nat} (hq : quo n = s) (hj : j < n.length) (hi : i = 1 + ((n.take j).flatMap one).length) : ∃ c, n[j]? = some c ∧ stepU s i = some (c, i + (one c).length) ∧ i + (one c).length = 1 + ((n.take (j + 1)).flatMap one).length := by
  refine ⟨n[j], by simp [hj], ?_, ?_⟩
  · have e : s = (34 :: (n.take j).flatMap one) ++ (one n[j] ++ ((n.drop (j + 1)).flatMap one ++ [34])) := by
      rw [← hq]
      unfold quo
      conv => lhs; rw [← List.take_append_drop j n, List.drop_eq_getElem_cons hj]
      rw [List.flatMap_append, List.flatMap_cons]
      simp
    rw [e]
    exact stepU_one _ _ _ _ (by rw [List.length_cons]; omega) (by simp)
  · rw [List.take_succ_eq_append_getElem hj, List.flatMap_append, List.length_append]
    rw [List.flatMap_cons, List.flatMap_nil, List.append_nil, hi]; omega
theorem unq_end {s n : By} {i j : Nat} (hq : quo n = s) (hj : j ≤ n.length) (hi : i = 1 + ((n.take j).flatMap one).length) : i < s.length - 1 ↔ j < n.length := by
  have e : (n.flatMap one).length = ((n.take j).flatMap one).length + ((n.drop j).flatMap one).length := by
    conv => lhs; rw [← List.take_append_drop j n, List.flatMap_append, List.length_append]
  have l := quo_len n
  rw [hq] at l
  constructor
  · intro h
    rcases Nat.lt_or_ge j n.length with h1 | h1
    · exact h1
    · have : n.drop j = [] := List.drop_eq_nil_of_le h1
      rw [this, List.flatMap_nil, List.length_nil] at e; omega
  · intro h
    have : 1 ≤ ((n.drop j).flatMap one).length := by
      rw [List.drop_eq_getElem_cons h, List.flatMap_cons, List.length_append]
      have := (one_len n[j]).1; omega
    omega
/-- what the loop of Unquote has read -/
def UnI (s note : By) (i : Nat) : Prop := ∀ n, quo n = s → n.length ≤ 40 → ∃ j, j ≤ n.length ∧ note = n.take j ∧ i = 1 + ((n.take j).flatMap one).length
theorem UnI.start (s : By) : UnI s [] 1 := fun n _ _ => ⟨0, by omega, by simp, by simp⟩
theorem UnI.fails {s note : By} {i : Nat} (h : UnI s note i) (hi : i < s.length - 1) (hs : stepU s i = none) : unq s = none :=
  unq_none.2 fun n h1 h2 => by
    obtain ⟨j, h3, h4, h5⟩ := h n h1 h2
    obtain ⟨c, _, h6, _⟩ := unq_step h1 ((unq_end h1 h3 h5).1 hi) h5
    rw [hs] at h6; cases h6
theorem UnI.step {s note : By} {i i' : Nat} {c : UInt8} (h : UnI s note i) (hi : i < s.length - 1) (hs : stepU s i = some (c, i')) : UnI s (note ++ [c]) i' := fun n h1 h2 => by
  obtain ⟨j, h3, h4, h5⟩ := h n h1 h2
  have hj := (unq_end h1 h3 h5).1 hi
  obtain ⟨c', h6, h7, h8⟩ := unq_step h1 hj h5
  rw [hs] at h7
  injection h7 with h7
  injection h7 with h9 h10
  subst h9
  refine ⟨j + 1, hj, ?_, by rw [h10]; exact h8⟩
  rw [List.take_add_one, h6, h4]; rfl
theorem UnI.long {s note : By} {i : Nat} (h : UnI s note i) (hl : 40 < note.length) : unq s = none :=
  unq_none.2 fun n h1 h2 => by
    obtain ⟨j, h3, h4, h5⟩ := h n h1 h2
    rw [h4, List.length_take] at hl; omega
theorem UnI.done {s note : By} {i : Nat} (h : UnI s note i) (hl : note.length ≤ 40) (hi : ¬ i < s.length - 1) : unq s = if quo note = s then some note else none := by
  split
  · rename_i e
    exact unq_some.2 ⟨e, hl⟩
  · rename_i e
    refine unq_none.2 fun n h1 h2 => ?_
    obtain ⟨j, h3, h4, h5⟩ := h n h1 h2
    have : ¬ j < n.length := fun hj => hi ((unq_end h1 h3 h5).2 hj)
    rw [List.take_of_length_le (by omega)] at h4
    exact e (by rw [h4]; exact h1)
theorem conv_own {w : World} {A : Option Addr} {n c : Nat} {l : By} {q : List Nat} (h : OwnS w 5 1 A n c (Lib.byteCells l) q) : (convert 102 9 (.slice A n c)).run Tryz.prog w = .ok (.string (bs l)) w := by
  have hn : l.length = n := by have := h.1; rw [Lib.byteCells_length] at this; omega
  rcases h.2 with ⟨rfl, rfl, rfl, _⟩ | ⟨g, cur, rfl, _, hh, _, _, _, hc⟩
  · have e : l = [] := List.length_eq_zero_iff.1 hn
    subst e
    exact Lib.run_convert_nil_bytes w 102 9 5 0 Tryz.underlying102 Tryz.underlying5 Tryz.underlying9
  · have := run_convert_bytes_back (P := Tryz.prog) w 102 9 5 ⟨g, 0, none⟩ c l Tryz.underlying102 Tryz.underlying5 Tryz.underlying9 (fun j hj => by
      rw [show (⟨g, 0, none⟩ : Addr).add j = ⟨g, j, none⟩ from by simp [Addr.add]; omega]
      exact (cell_of_heap hh j).trans (hc j _ (by simp [Lib.byteCells, hj])))
    rw [hn] at this
    exact this
end Go.Proofs.YtaokegobilphnaaGreatDoor
/- log.Unquote (printed by tools/lgh.py) -/
namespace Go.Proofs.YtaokegobilphnaaGreatDoor
open Go Go.RowKit Go.Shelf Go.Proofs Sp Lg
set_option linter.unusedVariables false
set_option linter.unusedSimpArgs false

theorem infoU8 : (Tryz.prog.info? 5).map (fun i => (i.zero, i.size, i.bytes)) = some (some (.int .u8 0), 1, 1) := by kernel_rfl
noncomputable def lgUnqE (s : By) : Int := if (unq s).isSome then 0 else 3
noncomputable def lgUnqV (s : By) : By := (unq s).getD []
def LgUnqPost (w : World) (s : By) (e : Ending) (w' : World) : Prop := e = .returned (.tuple #[.string (bs (lgUnqV s)), .int .i64 (lgUnqE s)]) ∧ Below w.heap.size w w'
theorem unqV_none {s : By} (h : unq s = none) : lgUnqV s = [] ∧ lgUnqE s = 3 := by unfold lgUnqV lgUnqE; rw [h]; exact ⟨rfl, rfl⟩
theorem unqV_some {s n : By} (h : unq s = some n) : lgUnqV s = n ∧ lgUnqE s = 0 := by unfold lgUnqV lgUnqE; rw [h]; exact ⟨rfl, rfl⟩
set_option maxRecDepth 100000 in
set_option maxHeartbeats 4000000 in
theorem gUnquote_any (s : ByteArray) (w : World) (hs : s.size ≤ 1000000) :
    Calls Tryz.prog 26 #[.string s] w (LgUnqPost w s.data.toList) := by
  obtain ⟨iU, hU0, hU1, hU2, hU3⟩ := info_parts infoU8
  have hlen : s.data.toList.length = s.size := Array.length_toList
  obtain ⟨T, hT⟩ : ∃ T, T = s.data.toList := ⟨_, rfl⟩
  have hsb : s = bs T := by rw [hT, bs_eta]
  rw [← hT]
  rw [← hT] at hlen
  have H := Lib.hid (And.intro hT (And.intro hlen hsb))
  have O0 := (Own.start w).new (i := .own 5 1 none 0 0 [] []) (Below.refl _ _) (OwnS.nil _ _ _) (by simp [It.fp])
  have HO0 := Lib.hid O0
  clear hT hlen hsb O0
  go_enter Tryz.func26, Tryz.ntmps26
  go_wp2_with fail
  go_loopg [4, 5] (s.size + 1) (fun g a i wr => ∃ (A : Option Addr) (n c : Nat) (note : By) (q : List Nat) (pos : Nat), g + pos = s.size + 2 ∧ 1 ≤ pos ∧ n ≤ 41 ∧ i = .int .i64 pos ∧ a = .slice A n c ∧ Own w.heap.size w [.own 5 1 A n c (Lib.byteCells note) q] wr ∧ UnI T note pos)
  case atStart =>
    exact ⟨none, 0, 0, [], [], 1, by omega, by omega, by omega, rfl, rfl, HO0.out, UnI.start _⟩
  case round =>
    obtain ⟨A, n, c, note, q, pos, hg, hp1, hn41, rfl, rfl, hO, hU⟩ := hrel
    have hnl : note.length = n := by have := (hO.owns 0 rfl).1; rw [Lib.byteCells_length] at this; omega
    have hcc : n ≤ c := (hO.owns 0 rfl).ge
    have hcm : c ≤ 9223372036854775807 := (hO.owns 0 rfl).cap
    by_cases h1 : pos + 1 < s.size
    · by_cases h2 : n ≤ 40
      · obtain ⟨n0, hn0⟩ : ∃ n0, n0 = s[pos].toNat := ⟨_, rfl⟩
        obtain ⟨n1, hn1⟩ : ∃ n1, n1 = s[pos + 1].toNat := ⟨_, rfl⟩
        have b0 : n0 < 256 := by rw [hn0]; exact s[pos].toNat_lt
        have b1 : n1 < 256 := by rw [hn1]; exact s[pos + 1].toNat_lt
        have t0 : T.getD pos 0 = s[pos] := by rw [H.out.1]; exact byte_at (by omega)
        have t1 : T.getD (pos + 1) 0 = s[pos + 1] := by rw [H.out.1]; exact byte_at (by omega)
        have eqs : ∀ (b : UInt8) (m : Nat), m = b.toNat → ∀ d : UInt8, (b = d ↔ m = d.toNat) := fun b m e d => ⟨fun h => by rw [e, h], fun h => UInt8.toNat_inj.1 (by omega)⟩
        have z0 := eqs s[pos] n0 hn0
        have z1 := eqs s[pos + 1] n1 hn1
        have hs0 : s[pos].toNat = n0 := hn0.symm
        have hs1 : s[pos + 1].toNat = n1 := hn1.symm
        have HS := Lib.hid (And.intro hO (And.intro hU (And.intro hnl (And.intro hn0 (And.intro hn1 (And.intro t0 (And.intro t1 (And.intro z0 z1))))))))
        clear hO hU hnl hn0 hn1 t0 t1 z0 z1 eqs
        by_cases c0 : n0 = 92
        · by_cases c1 : n1 = 110
          · have hst : Hid (stepU T pos = some (10, pos + 2)) := Lib.hid (by unfold stepU; rw [HS.out.2.2.2.2.2.1, HS.out.2.2.2.2.2.2.1, if_neg (by rw [ne_eq, HS.out.2.2.2.2.2.2.2.1]; simp [c0]), if_pos ((HS.out.2.2.2.2.2.2.2.2 _).2 (by simp [c1]))])
            go_wp2_with (first
         | (at_builtin
            refine wpList_append_S (size := 1) rfl (.tmp 58) (.tmp 60) 102 rfl iU _ 1 Tryz.underlying102 hU0 hU1 hU2 (by decide) hU3 rfl (A := A) (n := n) (c := c) (xs := Lib.byteCells note) (fp := q) (by simp [Act.eval]) ⟨wr.heap.size, 0, none⟩ (by simp [Act.eval]) [.int .u8 10] ((((HS.out.1).below ((Below.refl _ _).alloc (Nat.le_refl _) _)).get 0 rfl)) rfl ?_ (by intro u hu; simp at hu; rcases hu with rfl; rfl) (by omega) (by decide) ?_
            · intro u v hv
              rw [show (⟨wr.heap.size, 0, none⟩ : Addr).add u = ⟨wr.heap.size, u, none⟩ from by simp [Addr.add]; omega]
              refine (World.cell?_alloc_new _ _ _ _).trans ?_
              simpa using hv
            intro g c' w5 q1 q2 q3 q4
            have SB := ((HS.out.1).below ((Below.refl _ _).alloc (Nat.le_refl _) (.cells #[.int .u8 10] 5))).upd 0 rfl (i' := It.own 5 1 (some ⟨g, 0, none⟩) (n + 1) c' (Lib.byteCells note ++ [Value.int .u8 10]) [g]) q4 q1 (fun u hu => by rw [List.mem_singleton.1 hu]; rcases q2 with e | e; exact .inl e; exact .inr (Nat.le_of_eq e))
            have HB := Lib.hid SB
            clear SB q1 q2 q3 q4))
            go_roundg (s.size + 2 - (pos + 2))
            case measure => omega
            case rel =>
              refine ⟨some ⟨g, 0, none⟩, n + 1, c', note ++ [10], [g], pos + 2, by omega, by omega, by omega, by go_num, rfl, ?_, ?_⟩
              · have := HB.out; skip; simpa [Lib.byteCells] using this
              · exact HS.out.2.1.step (by rw [H.out.2.1]; omega) hst.out
          by_cases c2 : n1 = 120
          · by_cases h3 : s.size ≤ pos + 3
            · have hst : stepU T pos = none := by unfold stepU; rw [HS.out.2.2.2.2.2.1, HS.out.2.2.2.2.2.2.1, if_neg (by rw [ne_eq, HS.out.2.2.2.2.2.2.2.1]; simp [c0]), if_neg (by rw [HS.out.2.2.2.2.2.2.2.2]; simp [c2]), if_neg (by rw [ne_eq, HS.out.2.2.2.2.2.2.2.2]; simp [c2]), if_pos (by rw [H.out.2.1]; exact h3)]
              have hun := unqV_none (HS.out.2.1.fails (by rw [H.out.2.1]; omega) hst)
              have HU := Lib.hid hun
              clear hst hun
              go_wp2_with fail
              go_ret2
              exact ⟨by rw [HU.out.1, HU.out.2]; rfl, HS.out.1.bel⟩
            · obtain ⟨x2, hx2⟩ : ∃ x, x = hexv s[pos + 2] := ⟨_, rfl⟩
              obtain ⟨x3, hx3⟩ : ∃ x, x = hexv s[pos + 3] := ⟨_, rfl⟩
              have y2 : x2 ≤ 1024 := by rw [hx2]; exact hexv_le _
              have y3 : x3 ≤ 1024 := by rw [hx3]; exact hexv_le _
              have t2 : T.getD (pos + 2) 0 = s[pos + 2] := by rw [H.out.1]; exact byte_at (by omega)
              have t3 : T.getD (pos + 3) 0 = s[pos + 3] := by rw [H.out.1]; exact byte_at (by omega)
              have k2 : ∀ w, Calls Tryz.prog 83 #[.int .u8 s[pos + 2].toNat] w fun e w' => e = .returned (.int .i64 x2) ∧ w = w' := fun w => by rw [hx2]; exact gHex_any _ w
              have k3 : ∀ w, Calls Tryz.prog 83 #[.int .u8 s[pos + 3].toNat] w fun e w' => e = .returned (.int .i64 x3) ∧ w = w' := fun w => by rw [hx3]; exact gHex_any _ w
              have hst : stepU T pos = if 255 < 16 * x2 + x3 then none else some (UInt8.ofNat (16 * x2 + x3), pos + 4) := by unfold stepU; rw [HS.out.2.2.2.2.2.1, HS.out.2.2.2.2.2.2.1, t2, t3, if_neg (by rw [ne_eq, HS.out.2.2.2.2.2.2.2.1]; simp [c0]), if_neg (by rw [HS.out.2.2.2.2.2.2.2.2]; simp [c2]), if_neg (by rw [ne_eq, HS.out.2.2.2.2.2.2.2.2]; simp [c2]), if_neg (by rw [H.out.2.1]; exact h3), hx2, hx3]
              have HX := Lib.hid (And.intro hst (And.intro k2 k3))
              clear hst k2 k3 t2 t3 hx2 hx3
              have hI1 : ∀ u, (Instr.index 9 (.string s) (.int .i64 ((pos : Int) + 1 + 1))).run Tryz.prog u = .ok (.int .u8 s[pos + 2].toNat) u := fun u => by rw [run_index_string _ _ _ _ _ Tryz.underlying9, dif_pos (by omega)]; congr 5
              have hI2 : ∀ u, (Instr.index 9 (.string s) (.int .i64 ((pos : Int) + 1 + 2))).run Tryz.prog u = .ok (.int .u8 s[pos + 3].toNat) u := fun u => by rw [run_index_string _ _ _ _ _ Tryz.underlying9, dif_pos (by omega)]; congr 5
              have m1 : IntKind.i64.wrap ((pos : Int) + 1 + 1) = (pos : Int) + 1 + 1 := IntWalk.i64_in _ (by omega)
              have m2 : IntKind.i64.wrap ((pos : Int) + 1 + 2) = (pos : Int) + 1 + 2 := IntWalk.i64_in _ (by omega)
              have m3 : IntKind.i64.wrap (16 * (x2 : Int)) = 16 * (x2 : Int) := IntWalk.i64_in _ (by omega)
              have m4 : IntKind.i64.wrap (16 * (x2 : Int) + (x3 : Int)) = 16 * (x2 : Int) + (x3 : Int) := IntWalk.i64_in _ (by omega)
              by_cases h4 : 255 < 16 * x2 + x3
              · go_wp2_with fail
                go_quiet (first
                  | (go_at_call 83
                     refine (HX.out.2.1 _).mono ?_
                     rintro e W1 ⟨rfl, rfl⟩
                     exact ⟨rfl, _, rfl⟩)
                  | (go_at_call 83
                     refine (HX.out.2.2 _).mono ?_
                     rintro e W1 ⟨rfl, rfl⟩
                     exact ⟨rfl, _, rfl⟩))
                have hun := unqV_none (HS.out.2.1.fails (by rw [H.out.2.1]; omega) (by rw [HX.out.1, if_pos h4]))
                have HU := Lib.hid hun
                clear hun
                go_wp2_with fail
                go_ret2
                exact ⟨by rw [HU.out.1, HU.out.2]; rfl, HS.out.1.bel.trans ⟨rfl, rfl, rfl, Nat.le_refl _, fun _ _ => rfl⟩⟩
              · have hst : Hid (stepU T pos = some (UInt8.ofNat (16 * x2 + x3), pos + 4)) := Lib.hid (by rw [HX.out.1, if_neg h4])
                go_wp2_with fail
                go_quiet (first
                  | (go_at_call 83
                     refine (HX.out.2.1 _).mono ?_
                     rintro e W1 ⟨rfl, rfl⟩
                     exact ⟨rfl, _, rfl⟩)
                  | (go_at_call 83
                     refine (HX.out.2.2 _).mono ?_
                     rintro e W1 ⟨rfl, rfl⟩
                     exact ⟨rfl, _, rfl⟩))
                obtain ⟨W9, hW9⟩ : ∃ W, W = wr.drewN nq := ⟨_, rfl⟩
                have hb9 : Below wr.heap.size wr W9 := by rw [hW9]; exact ⟨rfl, rfl, rfl, Nat.le_refl _, fun _ _ => rfl⟩
                have H9 := Lib.hid (HS.out.1.below hb9)
                rw [← hW9]
                clear hW9 hb9
                go_wp2_with (first
             | (at_builtin
                refine wpList_append_S (size := 1) rfl (.tmp 58) (.tmp 60) 102 rfl iU _ 1 Tryz.underlying102 hU0 hU1 hU2 (by decide) hU3 rfl (A := A) (n := n) (c := c) (xs := Lib.byteCells note) (fp := q) (by simp [Act.eval]) ⟨W9.heap.size, 0, none⟩ (by simp [Act.eval]) [.int .u8 (16 * (x2 : Int) + (x3 : Int))] ((((H9.out).below ((Below.refl _ _).alloc (Nat.le_refl _) _)).get 0 rfl)) rfl ?_ (by intro u hu; simp at hu; rcases hu with rfl; rfl) (by omega) (by decide) ?_
                · intro u v hv
                  rw [show (⟨W9.heap.size, 0, none⟩ : Addr).add u = ⟨W9.heap.size, u, none⟩ from by simp [Addr.add]; omega]
                  refine (World.cell?_alloc_new _ _ _ _).trans ?_
                  simpa using hv
                intro g c' w5 q1 q2 q3 q4
                have SB := ((H9.out).below ((Below.refl _ _).alloc (Nat.le_refl _) (.cells #[.int .u8 (16 * (x2 : Int) + (x3 : Int))] 5))).upd 0 rfl (i' := It.own 5 1 (some ⟨g, 0, none⟩) (n + 1) c' (Lib.byteCells note ++ [Value.int .u8 (16 * (x2 : Int) + (x3 : Int))]) [g]) q4 q1 (fun u hu => by rw [List.mem_singleton.1 hu]; rcases q2 with e | e; exact .inl e; exact .inr (Nat.le_of_eq e))
                have HB := Lib.hid SB
                clear SB q1 q2 q3 q4))
                go_roundg (s.size + 2 - (pos + 4))
                case measure => omega
                case rel =>
                  refine ⟨some ⟨g, 0, none⟩, n + 1, c', note ++ [UInt8.ofNat (16 * x2 + x3)], [g], pos + 4, by omega, by omega, by omega, by go_num, rfl, ?_, ?_⟩
                  · have := HB.out; rw [show (16 * (x2 : Int) + (x3 : Int)) = ((UInt8.ofNat (16 * x2 + x3)).toNat : Int) from by have e : (UInt8.ofNat (16 * x2 + x3)).toNat = 16 * x2 + x3 := UInt8.toNat_ofNat_of_lt (by show _ < 256; omega); omega] at this; simpa [Lib.byteCells] using this
                  · exact HS.out.2.1.step (by rw [H.out.2.1]; omega) hst.out
          · have hst : Hid (stepU T pos = some (s[pos + 1], pos + 2)) := Lib.hid (by unfold stepU; rw [HS.out.2.2.2.2.2.1, HS.out.2.2.2.2.2.2.1, if_neg (by rw [ne_eq, HS.out.2.2.2.2.2.2.2.1]; simp [c0]), if_neg (by rw [HS.out.2.2.2.2.2.2.2.2]; simp [c1]), if_pos (by rw [ne_eq, HS.out.2.2.2.2.2.2.2.2]; simp [c2])])
            go_wp2_with (first
         | (at_builtin
            refine wpList_append_S (size := 1) rfl (.tmp 58) (.tmp 60) 102 rfl iU _ 1 Tryz.underlying102 hU0 hU1 hU2 (by decide) hU3 rfl (A := A) (n := n) (c := c) (xs := Lib.byteCells note) (fp := q) (by simp [Act.eval]) ⟨wr.heap.size, 0, none⟩ (by simp [Act.eval]) [.int .u8 n1] ((((HS.out.1).below ((Below.refl _ _).alloc (Nat.le_refl _) _)).get 0 rfl)) rfl ?_ (by intro u hu; simp at hu; rcases hu with rfl; rfl) (by omega) (by decide) ?_
            · intro u v hv
              rw [show (⟨wr.heap.size, 0, none⟩ : Addr).add u = ⟨wr.heap.size, u, none⟩ from by simp [Addr.add]; omega]
              refine (World.cell?_alloc_new _ _ _ _).trans ?_
              simpa using hv
            intro g c' w5 q1 q2 q3 q4
            have SB := ((HS.out.1).below ((Below.refl _ _).alloc (Nat.le_refl _) (.cells #[.int .u8 n1] 5))).upd 0 rfl (i' := It.own 5 1 (some ⟨g, 0, none⟩) (n + 1) c' (Lib.byteCells note ++ [Value.int .u8 n1]) [g]) q4 q1 (fun u hu => by rw [List.mem_singleton.1 hu]; rcases q2 with e | e; exact .inl e; exact .inr (Nat.le_of_eq e))
            have HB := Lib.hid SB
            clear SB q1 q2 q3 q4))
            go_roundg (s.size + 2 - (pos + 2))
            case measure => omega
            case rel =>
              refine ⟨some ⟨g, 0, none⟩, n + 1, c', note ++ [s[pos + 1]], [g], pos + 2, by omega, by omega, by omega, by go_num, rfl, ?_, ?_⟩
              · have := HB.out; rw [← hs1] at this; simpa [Lib.byteCells] using this
              · exact HS.out.2.1.step (by rw [H.out.2.1]; omega) hst.out
        · have hst : Hid (stepU T pos = some (s[pos], pos + 1)) := Lib.hid (by unfold stepU; rw [HS.out.2.2.2.2.2.1, if_pos (by rw [ne_eq, HS.out.2.2.2.2.2.2.2.1]; simp [c0])])
          go_wp2_with (first
       | (at_builtin
          refine wpList_append_S (size := 1) rfl (.tmp 58) (.tmp 60) 102 rfl iU _ 1 Tryz.underlying102 hU0 hU1 hU2 (by decide) hU3 rfl (A := A) (n := n) (c := c) (xs := Lib.byteCells note) (fp := q) (by simp [Act.eval]) ⟨wr.heap.size, 0, none⟩ (by simp [Act.eval]) [.int .u8 n0] ((((HS.out.1).below ((Below.refl _ _).alloc (Nat.le_refl _) _)).get 0 rfl)) rfl ?_ (by intro u hu; simp at hu; rcases hu with rfl; rfl) (by omega) (by decide) ?_
          · intro u v hv
            rw [show (⟨wr.heap.size, 0, none⟩ : Addr).add u = ⟨wr.heap.size, u, none⟩ from by simp [Addr.add]; omega]
            refine (World.cell?_alloc_new _ _ _ _).trans ?_
            simpa using hv
          intro g c' w5 q1 q2 q3 q4
          have SB := ((HS.out.1).below ((Below.refl _ _).alloc (Nat.le_refl _) (.cells #[.int .u8 n0] 5))).upd 0 rfl (i' := It.own 5 1 (some ⟨g, 0, none⟩) (n + 1) c' (Lib.byteCells note ++ [Value.int .u8 n0]) [g]) q4 q1 (fun u hu => by rw [List.mem_singleton.1 hu]; rcases q2 with e | e; exact .inl e; exact .inr (Nat.le_of_eq e))
          have HB := Lib.hid SB
          clear SB q1 q2 q3 q4))
          go_roundg (s.size + 2 - (pos + 1))
          case measure => omega
          case rel =>
            refine ⟨some ⟨g, 0, none⟩, n + 1, c', note ++ [s[pos]], [g], pos + 1, by omega, by omega, by omega, by go_num, rfl, ?_, ?_⟩
            · have := HB.out; rw [← hs0] at this; simpa [Lib.byteCells] using this
            · exact HS.out.2.1.step (by rw [H.out.2.1]; omega) hst.out
      · have hun := unqV_none (hU.long (by omega))
        have HU := Lib.hid (And.intro hun hO)
        clear hun hO hU hnl
        go_wp2_with fail
        go_ret2
        exact ⟨by rw [HU.out.1.1, HU.out.1.2]; rfl, HU.out.2.bel⟩
    · by_cases h2 : n ≤ 40
      · have hcv := conv_own (hO.owns 0 rfl)
        have hd := hU.done (by omega) (by rw [H.out.2.1]; omega)
        have kq := gQuoted_any (bs note) wr (by rw [bs_size]; omega)
        have edx : (bs note).data.toList = note := rfl
        rw [edx] at kq
        obtain ⟨Q, hQ⟩ : ∃ Q, Q = bs (quo note) := ⟨_, rfl⟩
        obtain ⟨N, hN⟩ : ∃ N, N = bs note := ⟨_, rfl⟩
        rw [← hQ] at kq
        rw [← hN] at hcv kq
        obtain ⟨bv, hbv⟩ : ∃ b, b = (Q.toList == s.toList) := ⟨_, rfl⟩
        have hdq : unq T = if bv = true then some note else none := by
          rw [hd, hbv, str_beq, hQ, H.out.2.2]
          simp only [decide_eq_true_eq, bs_inj]
        have hne : (Q.toList == s.toList) = bv := hbv.symm
        have HO := Lib.hid (And.intro hO (And.intro hdq (And.intro kq hN)))
        clear hO hdq kq hN hd hU hnl edx hQ hbv
        cases bv with
        | true =>
          have HU := Lib.hid (unqV_some (by rw [HO.out.2.1]; rfl : unq T = some note))
          go_wp2_with (go_at_call 81; refine HO.out.2.2.1.mono ?_; rintro e w1 ⟨rfl, hw1⟩; have hcv2 := HO.out.2.2.2 ▸ conv_own ((HO.out.1.below hw1).owns 0 rfl); have HW := Lib.hid hw1; clear hw1)
          go_ret2
          exact ⟨by rw [HU.out.1, HU.out.2, HO.out.2.2.2]; rfl, HO.out.1.bel.trans (HW.out.mono HO.out.1.bel.size)⟩
        | false =>
          have HU := Lib.hid (unqV_none (by rw [HO.out.2.1]; rfl : unq T = none))
          go_wp2_with (go_at_call 81; refine HO.out.2.2.1.mono ?_; rintro e w1 ⟨rfl, hw1⟩; have HW := Lib.hid hw1; clear hw1)
          go_ret2
          exact ⟨by rw [HU.out.1, HU.out.2]; rfl, HO.out.1.bel.trans (HW.out.mono HO.out.1.bel.size)⟩
      · have hun := unqV_none (hU.long (by omega))
        have HU := Lib.hid (And.intro hun hO)
        clear hun hO hU hnl
        go_wp2_with fail
        go_ret2
        exact ⟨by rw [HU.out.1.1, HU.out.1.2]; rfl, HU.out.2.bel⟩
end Go.Proofs.YtaokegobilphnaaGreatDoor
/- number (both) -/
namespace Go.Proofs.YtaokegobilphnaaGreatDoor
open Go Go.RowKit Go.Shelf Go.Proofs Sp Lg
set_option linter.unusedVariables false
set_option linter.unusedSimpArgs false

def numV (s : By) : Int := match numB s with | some v => v | none => 0
def numK (s : By) : Bool := (numB s).isSome
def numR (s : By) : Int := match numB s with | some v => v | none => -1
theorem num_none {s : By} (h : numB s = none) : numV s = 0 ∧ numK s = false ∧ numR s = -1 := by unfold numV numK numR; rw [h]; exact ⟨rfl, rfl, rfl⟩
theorem num_some {s : By} {v : Nat} (h : numB s = some v) : numV s = v ∧ numK s = true ∧ numR s = v := by unfold numV numK numR; rw [h]; exact ⟨rfl, rfl, rfl⟩
theorem num_short {s : By} (h : s.length < 1 ∨ 7 < s.length) : numB s = none := by unfold numB; rw [if_neg (by omega)]
theorem num_nodig {s : By} (h : ¬ s.all isDig = true) : numB s = none := by unfold numB; rw [if_neg (fun h2 => h h2.2.2.1)]
theorem num_lead {s : By} (h : 1 < s.length ∧ s.head? = some 48) : numB s = none := by
  unfold numB
  rw [if_neg]
  rintro ⟨h1, _, h3, h4⟩
  exact (num_iff (by intro e; rw [e] at h1; simp at h1) h3).1 h4 h
theorem num_ok {s : By} (h1 : 1 ≤ s.length) (h2 : s.length ≤ 7) (h3 : s.all isDig = true) : numB s = if Lib.decDigits (valB s) = s then some (valB s) else none := by
  unfold numB
  split
  · rename_i h; rw [if_pos h.2.2.2]
  · rename_i h; rw [if_neg (fun h4 => h ⟨h1, h2, h3, h4⟩)]
theorem take_next {s : ByteArray} {k : Nat} (hk : k < s.size) : s.data.toList.take (k + 1) = s.data.toList.take k ++ [s[k]] := by
  have hl : k < s.data.toList.length := by rw [Array.length_toList]; exact hk
  rw [List.take_succ_eq_append_getElem hl]
  simp [ByteArray.getElem_eq_getElem_data]
theorem dig_bad {s : ByteArray} {k : Nat} (hk : k < s.size) (h : s[k].toNat < 48 ∨ 57 < s[k].toNat) : ¬ s.data.toList.all isDig = true := fun h2 => by
  have h3 := List.all_eq_true.1 h2 s[k] (by
    have hl : k < s.data.toList.length := by rw [Array.length_toList]; exact hk
    simp [ByteArray.getElem_eq_getElem_data])
  simp [isDig] at h3
  omega
theorem valB_take_lt {s : By} {k : Nat} (h : (s.take k).all isDig = true) (hk : k ≤ 7) : valB (s.take k) < 10000000 := by
  have h1 := valB_lt _ _ rfl h
  refine Nat.lt_of_lt_of_le h1 ?_
  have : (s.take k).length ≤ 7 := by rw [List.length_take]; omega
  calc 10 ^ (s.take k).length ≤ 10 ^ 7 := Nat.pow_le_pow_right (by omega) this
    _ = 10000000 := by decide
set_option maxRecDepth 100000 in
set_option maxHeartbeats 4000000 in
theorem gNumber_any (s : ByteArray) (w : World) (hs : s.size ≤ 1000000) :
    Calls Tryz.prog 125 #[.string s] w fun e w' => e = .returned (.tuple #[.int .i64 (numV s.data.toList), .bool (numK s.data.toList)]) ∧ w = w' := by
  have hlen : s.data.toList.length = s.size := Array.length_toList
  obtain ⟨T, hT⟩ : ∃ T, T = s.data.toList := ⟨_, rfl⟩
  rw [← hT] at hlen ⊢
  have H := Lib.hid (And.intro hT hlen)
  clear hT hlen
  by_cases z0 : s.size = 0
  · have hn := num_none (num_short (s := T) (by rw [H.out.2]; omega))
    have HN := Lib.hid hn
    clear hn
    have f0 : ((s.size : Int) == 0) = true := by rw [z0]; rfl
    have HZ := Lib.hid z0
    clear z0
    go_enter Tryz.func125, Tryz.ntmps125
    go_wp2_with fail
    go_ret2
    exact ⟨by rw [HN.out.1, HN.out.2.1]; rfl, rfl⟩
  have f0 : ((s.size : Int) == 0) = false := beq_eq_false_iff_ne.2 (by omega)
  by_cases z7 : 7 < s.size
  · have hn := num_none (num_short (s := T) (by rw [H.out.2]; omega))
    have HN := Lib.hid hn
    clear hn
    go_enter Tryz.func125, Tryz.ntmps125
    go_wp2_with fail
    go_ret2
    exact ⟨by rw [HN.out.1, HN.out.2.1]; rfl, rfl⟩
  obtain ⟨n0, hn0⟩ : ∃ n0, n0 = s[0].toNat := ⟨_, rfl⟩
  have hs0 : s[0].toNat = n0 := hn0.symm
  have HN0 := Lib.hid hn0
  clear hn0
  by_cases z1 : 1 < s.size ∧ n0 = 48
  · have hn := num_none (num_lead (s := T) ⟨by rw [H.out.2]; omega, by
      have h0 : (0 : Nat) < s.data.toList.length := by rw [← H.out.1, H.out.2]; omega
      rw [H.out.1, List.head?_eq_getElem?, List.getElem?_eq_getElem h0]
      have e : s[0] = 48 := UInt8.toNat_inj.1 (by rw [← HN0.out, z1.2]; rfl)
      rw [← e]; simp [ByteArray.getElem_eq_getElem_data]⟩)
    obtain ⟨z1, c0⟩ := z1
    have HN := Lib.hid hn
    clear hn
    go_enter Tryz.func125, Tryz.ntmps125
    go_wp2_with fail
    go_ret2
    exact ⟨by rw [HN.out.1, HN.out.2.1]; rfl, rfl⟩
  have hlead : ¬ (1 < T.length ∧ T.head? = some 48) := fun h => z1 ⟨by have := h.1; rw [H.out.2] at this; exact this, by
      have h0 : (0 : Nat) < s.data.toList.length := by rw [← H.out.1, H.out.2]; omega
      have h2 := h.2
      rw [H.out.1, List.head?_eq_getElem?, List.getElem?_eq_getElem h0] at h2
      injection h2 with h2
      rw [HN0.out, show s[0] = 48 from by rw [← h2]; simp [ByteArray.getElem_eq_getElem_data]]; rfl⟩
  have HL := Lib.hid hlead
  by_cases h1 : 1 < s.size
  · have fb : ((n0 : Int) == 48) = false := beq_eq_false_iff_ne.2 (by intro e; exact z1 ⟨h1, by omega⟩)
    clear hlead z1
    go_enter Tryz.func125, Tryz.ntmps125
    go_wp2_with fail
    go_loopg [4, 26] s.size (fun g n i wr => ∃ k : Nat, g + k = s.size ∧ i = .int .i64 k ∧ n = .int .i64 (valB (T.take k)) ∧ (T.take k).all isDig = true ∧ w = wr)
    case atStart => exact ⟨0, rfl, rfl, rfl, by simp, rfl⟩
    case round =>
      obtain ⟨k, hk, rfl, rfl, hd, rfl⟩ := hrel
      have hv := valB_take_lt hd (by omega)
      obtain ⟨v, hv0⟩ : ∃ v, v = valB (T.take k) := ⟨_, rfl⟩
      rw [← hv0] at hv ⊢
      have HV := Lib.hid (And.intro hv0 hd)
      clear hv0 hd
      by_cases hlt : k < s.size
      · obtain ⟨m, hm⟩ : ∃ m, m = s[k].toNat := ⟨_, rfl⟩
        have hsk : s[k].toNat = m := hm.symm
        have HM := Lib.hid hm
        have m2 : m < 256 := by rw [hm]; exact s[k].toNat_lt
        clear hm
        by_cases d1 : m < 48
        · have hn := num_none (num_nodig (s := T) (by rw [H.out.1]; exact dig_bad hlt (by omega)))
          have HN := Lib.hid hn
          clear hn
          go_wp2_with fail
          go_ret2
          exact ⟨by rw [HN.out.1, HN.out.2.1]; rfl, rfl⟩
        by_cases d2 : 57 < m
        · have hn := num_none (num_nodig (s := T) (by rw [H.out.1]; exact dig_bad hlt (by omega)))
          have HN := Lib.hid hn
          clear hn
          go_wp2_with fail
          go_ret2
          exact ⟨by rw [HN.out.1, HN.out.2.1]; rfl, rfl⟩
        · go_wp2_with fail
          go_roundg (gk - 1)
          case measure => omega
          case rel =>
            have e : T.take (k + 1) = T.take k ++ [s[k]] := by rw [H.out.1]; exact take_next hlt
            refine ⟨k + 1, by omega, by go_num, ?_, ?_, rfl⟩
            · rw [e, valB_snoc, ← HV.out.1, ← HM.out]
              congr 1
              omega
            · rw [e, List.all_append, HV.out.2]
              simp [isDig, ← HM.out]
              omega
      · obtain rfl : k = s.size := by omega
        have et : T.take s.size = T := by rw [← H.out.2]; exact List.take_length
        have hn := num_some (s := T) (v := v) (by
          have hd := HV.out.2
          rw [et] at hd
          rw [num_ok (by rw [H.out.2]; omega) (by rw [H.out.2]; omega) hd, if_pos ((num_iff (by intro e; have := H.out.2; rw [e] at this; simp at this; omega) hd).2 HL.out), HV.out.1, et])
        have HN := Lib.hid hn
        clear hn et
        go_wp2_with fail
        go_ret2
        exact ⟨by rw [HN.out.1, HN.out.2.1]; rfl, rfl⟩
  · clear hlead z1
    go_enter Tryz.func125, Tryz.ntmps125
    go_wp2_with fail
    go_loopg [4, 26] s.size (fun g n i wr => ∃ k : Nat, g + k = s.size ∧ i = .int .i64 k ∧ n = .int .i64 (valB (T.take k)) ∧ (T.take k).all isDig = true ∧ w = wr)
    case atStart => exact ⟨0, rfl, rfl, rfl, by simp, rfl⟩
    case round =>
      obtain ⟨k, hk, rfl, rfl, hd, rfl⟩ := hrel
      have hv := valB_take_lt hd (by omega)
      obtain ⟨v, hv0⟩ : ∃ v, v = valB (T.take k) := ⟨_, rfl⟩
      rw [← hv0] at hv ⊢
      have HV := Lib.hid (And.intro hv0 hd)
      clear hv0 hd
      by_cases hlt : k < s.size
      · obtain ⟨m, hm⟩ : ∃ m, m = s[k].toNat := ⟨_, rfl⟩
        have hsk : s[k].toNat = m := hm.symm
        have HM := Lib.hid hm
        have m2 : m < 256 := by rw [hm]; exact s[k].toNat_lt
        clear hm
        by_cases d1 : m < 48
        · have hn := num_none (num_nodig (s := T) (by rw [H.out.1]; exact dig_bad hlt (by omega)))
          have HN := Lib.hid hn
          clear hn
          go_wp2_with fail
          go_ret2
          exact ⟨by rw [HN.out.1, HN.out.2.1]; rfl, rfl⟩
        by_cases d2 : 57 < m
        · have hn := num_none (num_nodig (s := T) (by rw [H.out.1]; exact dig_bad hlt (by omega)))
          have HN := Lib.hid hn
          clear hn
          go_wp2_with fail
          go_ret2
          exact ⟨by rw [HN.out.1, HN.out.2.1]; rfl, rfl⟩
        · go_wp2_with fail
          go_roundg (gk - 1)
          case measure => omega
          case rel =>
            have e : T.take (k + 1) = T.take k ++ [s[k]] := by rw [H.out.1]; exact take_next hlt
            refine ⟨k + 1, by omega, by go_num, ?_, ?_, rfl⟩
            · rw [e, valB_snoc, ← HV.out.1, ← HM.out]
              congr 1
              omega
            · rw [e, List.all_append, HV.out.2]
              simp [isDig, ← HM.out]
              omega
      · obtain rfl : k = s.size := by omega
        have et : T.take s.size = T := by rw [← H.out.2]; exact List.take_length
        have hn := num_some (s := T) (v := v) (by
          have hd := HV.out.2
          rw [et] at hd
          rw [num_ok (by rw [H.out.2]; omega) (by rw [H.out.2]; omega) hd, if_pos ((num_iff (by intro e; have := H.out.2; rw [e] at this; simp at this; omega) hd).2 HL.out), HV.out.1, et])
        have HN := Lib.hid hn
        clear hn et
        go_wp2_with fail
        go_ret2
        exact ⟨by rw [HN.out.1, HN.out.2.1]; rfl, rfl⟩
set_option maxRecDepth 100000 in
set_option maxHeartbeats 4000000 in
theorem rNumber_any (s : ByteArray) (w : World) (hs : s.size ≤ 1000000) :
    Calls Tryz.prog 119 #[.string s] w fun e w' => e = .returned (.int .i64 (numR s.data.toList)) ∧ w = w' := by
  have hlen : s.data.toList.length = s.size := Array.length_toList
  obtain ⟨T, hT⟩ : ∃ T, T = s.data.toList := ⟨_, rfl⟩
  have hsb : s = bs T := by rw [hT, bs_eta]
  rw [← hT] at hlen ⊢
  have H := Lib.hid (And.intro hT (And.intro hlen hsb))
  clear hT hlen hsb
  by_cases z0 : s.size < 1
  · have hn := num_none (num_short (s := T) (by rw [H.out.2.1]; omega))
    have HN := Lib.hid hn
    clear hn
    go_enter Tryz.func119, Tryz.ntmps119
    go_wp2_with fail
    go_ret
    exact ⟨by rw [HN.out.2.2]; rfl, rfl⟩
  by_cases z7 : 7 < s.size
  · have hn := num_none (num_short (s := T) (by rw [H.out.2.1]; omega))
    have HN := Lib.hid hn
    clear hn
    go_enter Tryz.func119, Tryz.ntmps119
    go_wp2_with fail
    go_ret
    exact ⟨by rw [HN.out.2.2]; rfl, rfl⟩
  go_enter Tryz.func119, Tryz.ntmps119
  go_wp2_with fail
  go_loopg [3, 4] s.size (fun g n i wr => ∃ k : Nat, g + k = s.size ∧ i = .int .i64 k ∧ n = .int .i64 (valB (T.take k)) ∧ (T.take k).all isDig = true ∧ w = wr)
  case atStart => exact ⟨0, rfl, rfl, rfl, by simp, rfl⟩
  case round =>
    obtain ⟨k, hk, rfl, rfl, hd, rfl⟩ := hrel
    have hv := valB_take_lt hd (by omega)
    obtain ⟨v, hv0⟩ : ∃ v, v = valB (T.take k) := ⟨_, rfl⟩
    rw [← hv0] at hv ⊢
    have HV := Lib.hid (And.intro hv0 hd)
    clear hv0 hd
    by_cases hlt : k < s.size
    · obtain ⟨m, hm⟩ : ∃ m, m = s[k].toNat := ⟨_, rfl⟩
      have hsk : s[k].toNat = m := hm.symm
      have HM := Lib.hid hm
      have m2 : m < 256 := by rw [hm]; exact s[k].toNat_lt
      clear hm
      by_cases d1 : m < 48
      · have hn := num_none (num_nodig (s := T) (by rw [H.out.1]; exact dig_bad hlt (by omega)))
        have HN := Lib.hid hn
        clear hn
        go_wp2_with fail
        go_ret
        exact ⟨by rw [HN.out.2.2]; rfl, rfl⟩
      by_cases d2 : 57 < m
      · have hn := num_none (num_nodig (s := T) (by rw [H.out.1]; exact dig_bad hlt (by omega)))
        have HN := Lib.hid hn
        clear hn
        go_wp2_with fail
        go_ret
        exact ⟨by rw [HN.out.2.2]; rfl, rfl⟩
      · go_wp2_with fail
        go_roundg (gk - 1)
        case measure => omega
        case rel =>
          have e : T.take (k + 1) = T.take k ++ [s[k]] := by rw [H.out.1]; exact take_next hlt
          refine ⟨k + 1, by omega, by go_num, ?_, ?_, rfl⟩
          · rw [e, valB_snoc, ← HV.out.1, ← HM.out]
            congr 1
            omega
          · rw [e, List.all_append, HV.out.2]
            simp [isDig, ← HM.out]
            omega
    · obtain rfl : k = s.size := by omega
      have et : T.take s.size = T := by rw [← H.out.2.1]; exact List.take_length
      have hn := num_ok (s := T) (by rw [H.out.2.1]; omega) (by rw [H.out.2.1]; omega) (by rw [← et]; exact HV.out.2)
      rw [← et, ← HV.out.1, et] at hn
      have kd := rDec1_any v (by omega) w
      obtain ⟨Q, hQ⟩ : ∃ Q, Q = bs (Lib.decDigits v) := ⟨_, rfl⟩
      obtain ⟨bv, hbv⟩ : ∃ b, b = (Q.toList == s.toList) := ⟨_, rfl⟩
      rw [← hQ] at kd
      have hn2 : numB T = if bv = true then some v else none := by
        rw [hn, hbv, str_beq, hQ, H.out.2.2]
        simp only [decide_eq_true_eq, bs_inj]
      have hne : (Q.toList == s.toList) = bv := hbv.symm
      have HD := Lib.hid (And.intro kd hn2)
      clear kd hn2 hn et hQ hbv
      cases bv with
      | true =>
        have HN := Lib.hid (num_some (by rw [HD.out.2]; rfl : numB T = some v))
        go_wp2_with (go_at_call 70; refine HD.out.1.mono ?_; rintro e w1 ⟨rfl, rfl⟩)
        go_ret
        exact ⟨by rw [HN.out.2.2]; rfl, rfl⟩
      | false =>
        have HN := Lib.hid (num_none (by rw [HD.out.2]; rfl : numB T = none))
        go_wp2_with (go_at_call 70; refine HD.out.1.mono ?_; rintro e w1 ⟨rfl, rfl⟩)
        go_ret
        exact ⟨by rw [HN.out.2.2]; rfl, rfl⟩
end Go.Proofs.YtaokegobilphnaaGreatDoor
