/- slices.Clone of ints; polynyalaw08.lower -/
import Derived.Test.YtfmhlnfcbbpfeaaPast
import Derived.Test.YtfmhlnfcbbpfeaaPlain
import Derived.Test.YtfmhlnfcbbpfeaaAppend
import Derived.Test.YtfmhlnfcbbpfeaaRegion
import Derived.Deep.DeepCutAuto
import Derived.IntWalk
namespace Go.Proofs.Ytfmhlnfcbbpfeaa
open Go Go.RowKit Sp
set_option linter.unusedVariables false

def ClonePost (w : World) (l : List Int) (e : Ending) (w' : World) : Prop :=
  ∃ A c q, e = .returned (.slice A l.length c) ∧ OwnA w' 3 A l.length c (ints l) q ∧ (∀ g ∈ q, w.heap.size ≤ g) ∧ Below w.heap.size w w'

set_option maxRecDepth 100000 in
set_option maxHeartbeats 1000000 in
theorem clone_any (A : Option Addr) (c : Nat) (l : List Int) (w : World) (hr : Rd w 1 A l.length (ints l)) (hc : A = none → c = 0) (hl : l.length ≤ 100000000) :
    Calls Try.prog 89 #[.slice A l.length c] w (ClonePost w l) := by
  obtain ⟨i0, hi, hz0, hz1, hz2⟩ := info_parts info_int
  have hnil := fun (w : World) (a : Option Addr) (n c : Nat) => Lib.run_eql_slice_nil (P := Try.prog) w 27 3 a n c 0 0 Try.underlying27
  cases A with
  | none =>
    have hl0 : l.length = 0 := by
      rcases Nat.eq_zero_or_pos l.length with h | h
      · exact h
      · obtain ⟨b, off, e, _⟩ := hr.2 h; cases e
    obtain rfl := hc rfl
    obtain rfl := List.eq_nil_of_length_eq_zero hl0
    simp only [List.length_nil]
    go_enter Try.func89, Try.ntmps89
    go_wp2_with fail
    go_ret
    exact ⟨none, 0, [], rfl, OwnA.nil _ _, by simp, Below.refl _ _⟩
  | some ad =>
    have HR := Lib.hid hr
    clear hr hc
    go_enter Try.func89, Try.ntmps89
    go_wp2_with (at_builtin
                 refine wpList_append_As rfl (.tmp 5) (.tmp 6) 27 rfl i0 _ 8 Try.underlying27 hi hz0 hz1 hz2 rfl (A := some ⟨w.heap.size, 0, none⟩) (n := 0) (c := 0) (B := some ad) (m := l.length) (d := c) (xs := []) (fp := [w.heap.size]) (ys := ints l) (by simp [Act.eval]) (by simp [Act.eval]) ⟨rfl, .inr ⟨_, 0, _, rfl, rfl, heap_alloc_new w _, by omega, by omega, rfl, by simp⟩⟩ (HR.out.below ((Below.refl _ _).alloc (Nat.le_refl _) _)) (ints_one _) (by omega) (by omega) ?_
                 intro A' c' w' fp' h1 h2 h3
                 have HQ := Lib.hid (And.intro h1 (And.intro h2 h3))
                 clear h1 h2 h3)
    go_ret
    obtain ⟨h1, h2, h3⟩ := HQ.out
    refine ⟨A', c', fp', by simp, by simpa using h1, fun g hg => ?_, ((Below.refl w.heap.size w).alloc (Nat.le_refl _) _).trans (h3.below (by simp) (by simp))⟩
    rcases h2 g hg with h | h
    · simp at h; omega
    · simp at h; omega

def lowS (l : List Int) (days : List Int) (k : Nat) : Int := if l.length = 0 then days.getD k 0 else max 0 (days.getD k 0 - l.getD (k % l.length) 0)
def LowerPost (w : World) (days l : List Int) (e : Ending) (w' : World) : Prop :=
  ∃ A c low q, e = .returned (.slice A days.length c) ∧ low.length = days.length ∧ OwnA w' 3 A days.length c (ints low) q ∧ LeL low days ∧ DaysOk low ∧ (∀ g ∈ q, w.heap.size ≤ g) ∧ Below w.heap.size w w'

set_option linter.unusedVariables false
def LoV (W0 : World) (g off : Nat) (n c : Nat) (AL : Option Addr) (bl ol m cl : Nat) (k r : Nat) (x y z : Int) (xs : List Value) (q : List Nat) : Nat → Value → Prop
  | 0, v => v = .slice (some ⟨g, off, none⟩) n c
  | 1, v => v = .int .i64 k
  | 2, v => v = .slice (some ⟨g, off, none⟩) n c
  | 3, v => v = .int .i64 k
  | 4, v => v = .pointer (some ⟨g, off + k, none⟩)
  | 5, v => v = .int .i64 x
  | 6, v => v = .slice AL m cl
  | 7, v => v = .int .i64 k
  | 8, v => v = .slice AL m cl
  | 9, v => v = .int .i64 m
  | 10, v => v = .int .i64 r
  | 11, v => v = .pointer (some ⟨bl, ol + r, none⟩)
  | 12, v => v = .int .u8 y
  | 13, v => v = .int .i64 y
  | 14, v => v = .int .i64 (x - y)
  | 15, v => v = .int .i64 z
  | 16, v => v = .pointer (some ⟨g, off + k, none⟩)
  | _, _ => True
def LoW (W0 : World) (g off : Nat) (n c : Nat) (AL : Option Addr) (bl ol m cl : Nat) (k r : Nat) (x y z : Int) (xs : List Value) (q : List Nat) (l : Nat → Bool) (w : World) : Prop := (l 17 = false → w.cell? ⟨g, off + k, none⟩ = some (.int .i64 x)) ∧ w.frozen? ⟨g, off + k, none⟩ = false ∧ w.cell? ⟨bl, ol + r, none⟩ = some (.int .u8 y) ∧ OwnA w 3 (some ⟨g, off, none⟩) n c (if l 17 then xs.set k (.int .i64 z) else xs) q ∧ Keep q W0 w

set_option maxRecDepth 100000 in
set_option maxHeartbeats 2000000 in
theorem lower_any (A : Option Addr) (c : Nat) (days : List Int) (B : Option Addr) (cl : Nat) (l : List Int) (w : World) (hr : Rd w 1 A days.length (ints days)) (hc : A = none → c = 0) (hn : days.length ≤ 1000) (hd : DaysOk days) (hb : Rd w 1 B l.length (byts l)) (hl : Bytes l) (hm : l.length ≤ 9223372036854775800) :
    Calls Try.prog 24 #[.slice A days.length c, .slice B l.length cl] w (LowerPost w days l) := by
  have HR := Lib.hid (And.intro hr (And.intro hd (And.intro hb hl)))
  clear hr hd hb hl
  go_enter Try.func24, Try.ntmps24
  go_wp2_with fail
  refine (clone_any A c days w HR.out.1 hc (by omega)).mono ?_
  rintro e w1 ⟨A', c', q, rfl, hown, hq, b1⟩
  have HO1 := Lib.hid (And.intro hown (And.intro hq b1))
  clear hown hq b1 hc
  go_wp2_with fail
  go_loopw [11] (fun i wr => ∃ (k : Nat) (out : List Int), k ≤ days.length ∧ i = .int .i64 k ∧ OwnA wr 3 A' days.length c' (ints out) q ∧ LeL out days ∧ DaysOk out ∧ Keep q w1 wr)
    (fun i _ => days.length - (intOf i).toNat)
  case atStart => exact ⟨0, days, Nat.zero_le _, rfl, HO1.out.1, ⟨rfl, fun _ _ => Int.le_refl _⟩, HR.out.2.1, Keep.refl _ _⟩
  case round =>
    obtain ⟨k, out, hk, rfl, hown, hle, hok, hK⟩ := hrel
    have hol : out.length = days.length := hle.1
    have HO := Lib.hid (And.intro hown (And.intro hle (And.intro hok (And.intro hK hol))))
    clear hown hle hok hK hol
    by_cases hlt : k < days.length
    · by_cases hl0 : l.length = 0
      · have hlb : decide (0 < l.length) = false := by simp [hl0]
        have HL0 := Lib.hid hl0
        clear hl0
        go_wp2_with fail
        go_roundw
        case measure => simp [intOf]; omega
        case rel => exact ⟨k + 1, out, by omega, by go_num, HO.out.1, HO.out.2.1, HO.out.2.2.1, HO.out.2.2.2.1⟩
      · have hlb : decide (0 < l.length) = true := by simp; omega
        have hlp : 0 < l.length := by omega
        clear hl0
        obtain ⟨g, off, rfl, hqg, zg, hcx, hfz⟩ := HO.out.1.some_ (by omega)
        obtain ⟨r, hr⟩ : ∃ r, r = k % l.length := ⟨_, rfl⟩
        have hrl : r < l.length := by rw [hr]; exact Nat.mod_lt _ hlp
        obtain ⟨bl, ol, rfl, hbl, hcy⟩ := HR.out.2.2.1.2 hlp
        obtain ⟨x, hx⟩ : ∃ x, x = out.getD k 0 := ⟨_, rfl⟩
        obtain ⟨y, hy⟩ : ∃ y, y = l.getD r 0 := ⟨_, rfl⟩
        obtain ⟨z, hz⟩ : ∃ z, (if y < x then x - y else 0) = z := ⟨_, rfl⟩
        have c0 : wr.cell? ⟨g, off + k, none⟩ = some (.int .i64 x) := hcx k _ (by rw [hx]; exact ints_get (by rw [HO.out.2.2.2.2]; exact hlt))
        have f0 := hfz (off + k)
        have hgq : w.heap.size ≤ g := HO1.out.2.1 g (by rw [hqg]; simp)
        have cy : wr.cell? ⟨bl, ol + r, none⟩ = some (.int .u8 y) := by
          rw [hy]
          refine HO.out.2.2.2.1.cell ((HO1.out.2.2.cell (p := ⟨bl, ol + r, none⟩) hbl).trans (hcy r _ (byts_get hrl))) ?_
          rw [hqg]; simp; omega
        have hxb : 0 ≤ x ∧ x ≤ 2000 := by rw [hx]; exact getD_all HO.out.2.2.1 (by omega) k
        have hyb : 0 ≤ y ∧ y ≤ 255 := by rw [hy]; exact HR.out.2.2.2.get r
        have hzb : 0 ≤ z ∧ z ≤ x := by rw [← hz]; split <;> omega
        have HNE : Hid (g ≠ bl) := Lib.hid (by omega)
        have HMO : Hid ((k : Int).tmod (l.length : Int) = (r : Int)) := Lib.hid (by rw [Int.tmod_eq_emod_of_nonneg (by omega), hr]; exact (Int.natCast_emod k l.length).symm)
        have HZZ := Lib.hid hz
        have HX := Lib.hid hx
        have HG := Lib.hid hqg
        clear hcx hfz hx hy hz hr hcy hqg
        go_upto_region 6 with fail
        refine wp_region_steps (σ := Unit) (by kernel_rfl) (by kernel_rfl) (fun _ jx vx _ => LoV wr g off days.length c' (some ⟨bl, ol, none⟩) bl ol l.length cl k r x y z (ints out) q jx vx) (fun _ ly wx => LoW wr g off days.length c' (some ⟨bl, ol, none⟩) bl ol l.length cl k r x y z (ints out) q ly wx) () ?_ ?_ ?_
        · exact ⟨fun _ => c0, f0, cy, by simpa using HO.out.1.keepS ((Keep.refl [] wr).drew) (by simp), (Keep.refl _ _).drew⟩
        · simp only [AllFrom, Nat.zero_add, Nat.reduceAdd]
          refine ⟨?_, ?_, ?_, ?_, ?_, ?_, ?_, ?_, ?_, ?_, ?_, ?_, ?_, ?_, ?_, ?_, ?_, ?_, trivial⟩
          · refine step_pure fun sg ly a wr hl hd hW hF => ?_
            have et5 := hF.old 5 (by kernel_rfl)
            simp [Act.eval] at et5
            exact ⟨by simpa [LoW, upd] using hW, .slice (some ⟨g, off, none⟩) days.length c', by go_simp, rfl⟩
          · refine step_pure fun sg ly a wr hl hd hW hF => ?_
            have et6 := hF.old 6 (by kernel_rfl)
            simp [Act.eval] at et6
            exact ⟨by simpa [LoW, upd] using hW, .int .i64 k, by go_simp, rfl⟩
          · refine step_pure fun sg ly a wr hl hd hW hF => ?_
            have et5 := hF.old 5 (by kernel_rfl)
            simp [Act.eval] at et5
            exact ⟨by simpa [LoW, upd] using hW, .slice (some ⟨g, off, none⟩) days.length c', by go_simp, rfl⟩
          · refine step_pure fun sg ly a wr hl hd hW hF => ?_
            have et6 := hF.old 6 (by kernel_rfl)
            simp [Act.eval] at et6
            exact ⟨by simpa [LoW, upd] using hW, .int .i64 k, by go_simp, rfl⟩
          · refine step_pure fun sg ly a wr hl hd hW hF => ?_
            simp [Region.binds] at hd
            have et19 := hF.new 2 19 (by simp [hd]) rfl
            simp [LoV, Act.eval] at et19
            have et20 := hF.new 3 20 (by simp [hd]) rfl
            simp [LoV, Act.eval] at et20
            have b1 : (0 : Int) ≤ (k : Int) := by omega
            have b2 : (k : Int) < (days.length : Int) := by omega
            exact ⟨by simpa [LoW, upd] using hW, .pointer (some ⟨g, off + k, none⟩), by go_simp, rfl⟩
          · refine step_pure fun sg ly a wr hl hd hW hF => ?_
            simp [Region.binds] at hd
            have et21 := hF.new 4 21 (by simp [hd]) rfl
            simp [LoV, Act.eval] at et21
            have n17_14 := hF.notYet 5 14 hl (by kernel_rfl)
            have n17_15 := hF.notYet 14 15 n17_14 (by kernel_rfl)
            have n17 := hF.notYet 15 17 n17_15 (by kernel_rfl)
            have c0 := hW.1 n17
            exact ⟨by simpa [LoW, upd] using hW, .int .i64 x, by go_simp, rfl⟩
          · refine step_pure fun sg ly a wr hl hd hW hF => ?_
            have et1 := hF.old 1 (by kernel_rfl)
            simp [Act.eval] at et1
            exact ⟨by simpa [LoW, upd] using hW, .slice (some ⟨bl, ol, none⟩) l.length cl, by go_simp, rfl⟩
          · refine step_pure fun sg ly a wr hl hd hW hF => ?_
            have et6 := hF.old 6 (by kernel_rfl)
            simp [Act.eval] at et6
            exact ⟨by simpa [LoW, upd] using hW, .int .i64 k, by go_simp, rfl⟩
          · refine step_pure fun sg ly a wr hl hd hW hF => ?_
            have et1 := hF.old 1 (by kernel_rfl)
            simp [Act.eval] at et1
            exact ⟨by simpa [LoW, upd] using hW, .slice (some ⟨bl, ol, none⟩) l.length cl, by go_simp, rfl⟩
          · refine step_pure fun sg ly a wr hl hd hW hF => ?_
            simp [Region.binds] at hd
            have et25 := hF.new 8 25 (by simp [hd]) rfl
            simp [LoV, Act.eval] at et25
            exact ⟨by simpa [LoW, upd] using hW, .int .i64 l.length, by go_simp, rfl⟩
          · refine step_pure fun sg ly a wr hl hd hW hF => ?_
            simp [Region.binds] at hd
            have et24 := hF.new 7 24 (by simp [hd]) rfl
            simp [LoV, Act.eval] at et24
            have et26 := hF.new 9 26 (by simp [hd]) rfl
            simp [LoV, Act.eval] at et26
            have n0 : ¬ (l.length = 0) := by omega
            have em : (k : Int).tmod (l.length : Int) = (r : Int) := HMO.out
            have ew := IntWalk.i64_in (r : Int) (by omega)
            exact ⟨by simpa [LoW, upd] using hW, .int .i64 r, by go_simp, rfl⟩
          · refine step_pure fun sg ly a wr hl hd hW hF => ?_
            simp [Region.binds] at hd
            have et23 := hF.new 6 23 (by simp [hd]) rfl
            simp [LoV, Act.eval] at et23
            have et27 := hF.new 10 27 (by simp [hd]) rfl
            simp [LoV, Act.eval] at et27
            have b1 : (0 : Int) ≤ (r : Int) := by omega
            have b2 : (r : Int) < (l.length : Int) := by omega
            exact ⟨by simpa [LoW, upd] using hW, .pointer (some ⟨bl, ol + r, none⟩), by go_simp, rfl⟩
          · refine step_pure fun sg ly a wr hl hd hW hF => ?_
            simp [Region.binds] at hd
            have et28 := hF.new 11 28 (by simp [hd]) rfl
            simp [LoV, Act.eval] at et28
            have c0 := hW.2.2.1
            exact ⟨by simpa [LoW, upd] using hW, .int .u8 y, by go_simp, rfl⟩
          · refine step_pure fun sg ly a wr hl hd hW hF => ?_
            simp [Region.binds] at hd
            have et29 := hF.new 12 29 (by simp [hd]) rfl
            simp [LoV, Act.eval] at et29
            have ew := IntWalk.i64_in y (by omega)
            exact ⟨by simpa [LoW, upd] using hW, .int .i64 y, by go_simp, rfl⟩
          · refine step_pure fun sg ly a wr hl hd hW hF => ?_
            simp [Region.binds] at hd
            have et22 := hF.new 5 22 (by simp [hd]) rfl
            simp [LoV, Act.eval] at et22
            have et30 := hF.new 13 30 (by simp [hd]) rfl
            simp [LoV, Act.eval] at et30
            have ew := IntWalk.i64_in (x - y) (by omega)
            exact ⟨by simpa [LoW, upd] using hW, .int .i64 (x - y), by go_simp, rfl⟩
          · refine step_pure fun sg ly a wr hl hd hW hF => ?_
            simp [Region.binds] at hd
            have et31 := hF.new 14 31 (by simp [hd]) rfl
            simp [LoV, Act.eval] at et31
            have hz := HZZ.out
            exact ⟨by simpa [LoW, upd] using hW, .int .i64 z, by go_simp, rfl⟩
          · refine step_pure fun sg ly a wr hl hd hW hF => ?_
            simp [Region.binds] at hd
            have et17 := hF.new 0 17 (by simp [hd]) rfl
            simp [LoV, Act.eval] at et17
            have et18 := hF.new 1 18 (by simp [hd]) rfl
            simp [LoV, Act.eval] at et18
            have b1 : (0 : Int) ≤ (k : Int) := by omega
            have b2 : (k : Int) < (days.length : Int) := by omega
            exact ⟨by simpa [LoW, upd] using hW, .pointer (some ⟨g, off + k, none⟩), by go_simp, rfl⟩
          · refine step_store rfl fun sg ly a wr hl hd hW hF => ?_
            simp [Region.binds] at hd
            have et33 := hF.new 16 33 (by simp [hd]) rfl
            simp [LoV, Act.eval] at et33
            have et32 := hF.new 15 32 (by simp [hd]) rfl
            simp [LoV, Act.eval] at et32
            obtain ⟨c0, f0, cy, ow, kp⟩ := hW
            have c0 := c0 hl
            rw [if_neg (by simp [hl])] at ow
            obtain ⟨g', o', e1, hq, _⟩ := ow.some_ (by omega)
            injection e1 with e1
            injection e1 with e1 e2 _
            subst e1 e2
            refine ⟨wr.setCell ⟨g, off + k, none⟩ (.int .i64 z), (), .skip, by go_simp, .inl rfl, ⟨?_, ?_, ?_, ?_, kp.setCell (.inl (by rw [hq]; simp)) _⟩, fun _ _ _ h => h⟩
            · intro h; simp [upd] at h
            · rw [World.frozen?_setCell]; exact f0
            · rw [World.cell?_setCell_other _ _ _ _ (by intro e; injection e with e; exact HNE.out e)]; exact cy
            · rw [if_pos (by simp [upd])]; exact ow.set_ (by omega) _
        intro _ a w5 hW hF
        obtain ⟨f, hf, rfl⟩ := hF.lit
        obtain ⟨_, _, _, ow, kp⟩ := hW
        simp only [List.length_cons, List.length_nil, Nat.reduceAdd, Nat.reduceLT, decide_true, if_true] at ow
        have HW := Lib.hid (And.intro ow kp)
        clear hf hF ow kp c0 f0 cy
        simp only [List.filterMap, List.foldl, List.setIfInBounds_toArray, List.set_cons_succ, List.set_cons_zero]
        go_wp2_with fail
        go_roundw
        case measure => simp [intOf]; omega
        case rel =>
          have e6 : (ints out).set k (.int .i64 z) = ints (out.set k z) := by simp [ints]
          have h5 := HW.out.1
          rw [e6] at h5
          refine ⟨k + 1, out.set k z, by omega, by go_num, h5, ⟨by rw [List.length_set]; exact HO.out.2.2.2.2, fun i hi => ?_⟩, fun u hu => ?_, HO.out.2.2.2.1.trans HW.out.2 (fun t ht => .inl ht)⟩
          · rw [List.length_set] at hi
            have h6 := HO.out.2.1.2 i hi
            rw [List.getD_eq_getElem?_getD, List.getElem?_set]
            by_cases e : k = i
            · subst e
              rw [if_pos rfl, if_pos hi]
              have := HX.out
              simp only [Option.getD_some]
              omega
            · rw [if_neg e, ← List.getD_eq_getElem?_getD]; exact h6
          · rcases List.mem_or_eq_of_mem_set hu with h | h
            · exact HO.out.2.2.1 u h
            · rw [h]; omega
    · obtain rfl : k = days.length := by omega
      go_wp2_with fail
      go_ret
      exact ⟨A', c', out, q, rfl, HO.out.2.2.2.2, HO.out.1, HO.out.2.1, HO.out.2.2.1, HO1.out.2.1, HO1.out.2.2.trans (HO.out.2.2.2.1.below HO1.out.2.2.size (fun t ht => HO1.out.2.1 t ht))⟩
end Go.Proofs.Ytfmhlnfcbbpfeaa
