/- restrict.Windows -/
import Derived.Test.YtfmhlnfcbbpfeaaJoin
namespace Go.Proofs.Ytfmhlnfcbbpfeaa
open Go Go.RowKit Sp

/-- the windows of the first k days -/
def winN (l : List Bool) : Nat → List (Int × Int)
  | 0 => []
  | k + 1 => if l.getD k false then joinS (winN l k) k else winN l k
theorem joinS_length (L : List (Int × Int)) (d : Int) : (joinS L d).length ≤ L.length + 1 := by
  unfold joinS
  split
  · rename_i s hs
    have : L ≠ [] := by rintro rfl; cases hs
    have h1 : 0 < L.length := List.length_pos_iff.2 this
    split <;> simp <;> omega
  · simp
theorem winN_length (l : List Bool) (k : Nat) : (winN l k).length ≤ k := by
  induction k with
  | zero => exact Nat.le_refl _
  | succ k ih =>
    unfold winN
    split
    · exact Nat.le_trans (joinS_length _ _) (by omega)
    · omega
def windowsS (p : Pol) (days : List Int) (v : Ves) : List (Int × Int) := if askS p days v = 0 then winN (passesS p days v) days.length else []

def SpansAt (w : World) (A : Option Addr) (c : Nat) (L : List (Int × Int)) : Prop := Rd w 2 A L.length (spcs L) ∧ L.length ≤ c ∧ c ≤ 9223372036854775807
def WindowsPost (w : World) (p : Pol) (days : List Int) (v : Ves) (e : Ending) (w' : World) : Prop :=
  ∃ A c, e = .returned (.tuple #[.slice A (windowsS p days v).length c, .int .i64 (askS p days v)]) ∧ SpansAt w' A c (windowsS p days v) ∧ Below w.heap.size w w'

set_option maxRecDepth 100000 in
set_option maxHeartbeats 2000000 in
theorem Windows_any (As : Option Addr) (cs : Nat) (p : Pol) (A : Option Addr) (c : Nat) (days : List Int) (v : Ves) (w : World) (hp : PolV w As cs p) (hr : Rd w 1 A days.length (ints days)) (hm : days.length ≤ 9223372036854775807) :
    Calls Try.prog 26 #[.agg #[.slice As p.steps.length cs, .int .i64 p.hold, .int .i64 p.calm, .int .i64 p.notice, .int .i64 p.grace], .slice A days.length c, .agg #[.int .i64 v.cls, .int .i64 v.ton, .bool v.esc]] w (WindowsPost w p days v) := by
  obtain ⟨er, her⟩ : ∃ er, er = askS p days v := ⟨_, rfl⟩
  obtain ⟨n, hn⟩ : ∃ n, n = if er = 0 then days.length else 0 := ⟨_, rfl⟩
  have b0 : ∀ o o', Below w.heap.size w ((w.alloc o).alloc o') := fun o o' => ((Below.refl _ _).alloc (Nat.le_refl _) _).alloc (by simp) _
  have hak : ∀ o o', Calls Try.prog 82 #[.agg #[.slice As p.steps.length cs, .int .i64 p.hold, .int .i64 p.calm, .int .i64 p.notice, .int .i64 p.grace], .slice A days.length c, .agg #[.int .i64 v.cls, .int .i64 v.ton, .bool v.esc]]
      ((w.alloc o).alloc o')
      fun e w1 => ∃ A1 c1, e = .returned (.tuple #[.slice A1 n c1, .int .i64 er]) ∧ (er = 0 → BoolsAt w1 A1 c1 (passesS p days v)) ∧ Below w.heap.size w w1 := by
    intro o o'
    refine (asked_any As cs p A c days v _ ⟨hp.1, hp.2.1, hp.2.2.below (b0 _ _)⟩ (hr.below (b0 _ _)) hm).mono ?_
    rintro e w1 ⟨A1, c1, rfl, h1, h2⟩
    exact ⟨A1, c1, by rw [hn, her], fun h => h1 (her.symm.trans h), (b0 _ _).trans (h2.mono (by simp; omega))⟩
  have HP := Lib.hid (And.intro her (And.intro hn hak))
  clear her hn hak b0 hr hp
  by_cases h0 : er = 0
  · subst h0
    have hne : ((0 : Int) != 0) = false := rfl
    obtain rfl : n = days.length := HP.out.2.1
    have hst : startS p days = 0 := by
      by_cases h : startS p days = 0
      · exact h
      · have := ask_start (v := v) h; rw [← HP.out.1] at this; exact absurd this.symm h
    obtain ⟨_, hl4, _⟩ := start_ok hst
    clear hst
    go_enter Try.func26, Try.ntmps26
    go_wp2_with fail
    refine (HP.out.2.2 _ _).mono ?_
    rintro e w1 ⟨A1, c1, rfl, h1, h2⟩
    obtain ⟨hr1, hc1, hc2⟩ := h1 trivial
    rw [passesS_length] at hr1 hc1
    have HB := Lib.hid h2
    clear h1 h2
    go_wp2_with fail
    obtain ⟨cb, hcb⟩ : ∃ cb, cb = w1.heap.size := ⟨_, rfl⟩
    rw [← hcb]
    obtain ⟨W, hW⟩ : ∃ W, W = w1.alloc (.cells #[.slice none 0 0] 61) := ⟨_, rfl⟩
    rw [← hW]
    have hh : W.heap[cb]? = some (.cells #[.slice none 0 0] 61 (0, 0)) := by rw [hW, hcb]; exact heap_alloc_new _ _
    have kW : Keep [] w1 W := by rw [hW]; exact (Keep.refl _ _).alloc _
    have zW : W.heap.size = cb + 1 := by rw [hW, hcb]; simp
    have hz := HB.out.size
    obtain ⟨l, hl⟩ : ∃ l, l = passesS p days v := ⟨_, rfl⟩
    have hll : l.length = days.length := by rw [hl, passesS_length]
    rw [← hl] at hr1
    have HL := Lib.hid (And.intro hl (And.intro kW hcb))
    clear hl hW kW hcb
    go_loopw [27] (fun i wr => ∃ (k : Nat) (fp : List Nat), k ≤ days.length ∧ i = .int .i64 k ∧ SpansIn wr cb (winN l k) fp ∧ (∀ g ∈ fp, cb + 1 ≤ g) ∧ Keep [cb] W wr)
      (fun i _ => days.length - (intOf i).toNat)
    case atStart => exact ⟨0, [], Nat.zero_le _, rfl, ⟨none, 0, hh, OwnS.nil _ _ _, by simp⟩, by simp, Keep.refl _ _⟩
    case round =>
      obtain ⟨k, fp, hk, rfl, hsp, hfp, hK⟩ := hrel
      by_cases hlt : k < days.length
      · obtain ⟨b, off, rfl, hb, hc⟩ := hr1.2 (by omega)
        have c0 : wr.cell? ⟨b, off + k, none⟩ = some (.bool (l.getD k false)) := hK.cell ((HL.out.2.1.cell (hc k _ (bools_get (by omega))) (by simp))) (by simp; have := HL.out.2.2; omega)
        obtain ⟨x, hx⟩ : ∃ x, x = l.getD k false := ⟨_, rfl⟩
        rw [← hx] at c0
        have HX := Lib.hid (And.intro hx (And.intro hsp (And.intro hfp hK)))
        clear hx hsp hfp hK hc hr1
        cases x
        · go_wp2_with fail
          go_roundw
          case rel =>
            refine ⟨k + 1, fp, by omega, by go_num, ?_, HX.out.2.2.1, HX.out.2.2.2⟩
            rw [winN, ← HX.out.1]; exact HX.out.2.1
          case measure => simp [intOf]; omega
        · have hwl := winN_length l k
          go_wp2_with (go_at_call 91; refine (join_any cb (winN l k) fp k wr HX.out.2.1 (by omega) (by omega)).mono ?_; rintro e w2 ⟨rfl, fp2, hs2, hf2, hk2⟩; have H2 := Lib.hid (And.intro hs2 (And.intro hf2 hk2)); clear hs2 hf2 hk2)
          go_roundw
          case rel =>
            have hwr := HX.out.2.2.2.size
            refine ⟨k + 1, fp2, by omega, by go_num, ?_, ?_, HX.out.2.2.2.trans H2.out.2.2 ?_⟩
            · rw [winN, ← HX.out.1]; exact H2.out.1
            · intro g hg
              rcases H2.out.2.1 g hg with h | h
              · exact HX.out.2.2.1 g h
              · omega
            · intro y hy
              rcases List.mem_cons.1 hy with h | h
              · exact .inl (by simp [h])
              · exact .inr (by have := HX.out.2.2.1 y h; omega)
          case measure => simp [intOf]; omega
      · obtain rfl : k = days.length := by omega
        obtain ⟨A2, c2, hh2, hown, hnc⟩ := hsp
        have c0 : wr.cell? ⟨cb, 0, none⟩ = some (.slice A2 (winN l days.length).length c2) := (cell_of_heap hh2 0).trans rfl
        have HO := Lib.hid (And.intro hown hK)
        clear hown hK hh2
        go_wp2_with fail
        go_ret2
        have he : windowsS p days v = winN l days.length := by unfold windowsS; rw [if_pos HP.out.1.symm, HL.out.1]
        refine ⟨A2, c2, by rw [he, ← HP.out.1]; rfl, by rw [he]; exact ⟨HO.out.1.rd, HO.out.1.ge, HO.out.1.cap⟩, ?_⟩
        have b1 : Below w1.heap.size w1 wr := (HL.out.2.1.below (Nat.le_refl _) (by simp)).trans (HO.out.2.below (by have := HL.out.2.2; omega) (by simp; have := HL.out.2.2; omega))
        exact HB.out.trans (b1.mono hz)
  · have hne : (er != 0) = true := by simp [h0]
    have HK := Lib.hid h0
    clear h0
    go_enter Try.func26, Try.ntmps26
    go_wp2_with fail
    refine (HP.out.2.2 _ _).mono ?_
    rintro e w1 ⟨A1, c1, rfl, h1, h2⟩
    have HB := Lib.hid h2
    clear h1 h2
    go_wp2_with fail
    go_ret2
    have he : windowsS p days v = [] := by unfold windowsS; rw [if_neg (by rw [← HP.out.1]; exact HK.out)]
    refine ⟨none, 0, by rw [he, ← HP.out.1]; rfl, by rw [he]; exact ⟨Rd.nil _ _ _, Nat.le_refl _, by omega⟩, HB.out⟩
end Go.Proofs.Ytfmhlnfcbbpfeaa
