/- polynyaref08.ends -/
import Derived.Test.YtbgnkljjgfcngaaGreatRSp24
import Derived.Test.YtbgnkljjgfcngaaGreatRSp27
import Derived.Test.YtbgnkljjgfcngaaGreatRSp1
import Derived.Deep.DeepCutAuto
import Derived.IntWalk
set_option linter.unusedVariables false
set_option linter.unusedSimpArgs false
namespace Go.Proofs.YtbgnkljjgfcngaaGreat
open Go Go.RowKit Sp
set_option linter.unusedVariables false

def endOf (hi : Bool) (s : Int × Int) : Int := if hi then s.2 else s.1
def endsL (p : Pol) (l : List (Int × Int)) (hi : Bool) : List Int := if spnE p l = 0 then l.map (endOf hi) else []
def EndsPost (w : World) (p : Pol) (l : List (Int × Int)) (hi : Bool) (e : Ending) (w' : World) : Prop :=
  ∃ A1 c1, e = .returned (.tuple #[.slice A1 (endsL p l hi).length c1, .int .i64 (spnE p l)]) ∧ Rd w' 1 A1 (endsL p l hi).length (ints (endsL p l hi)) ∧ Below w.heap.size w w'
theorem EndsPost.bad {w w' : World} {p : Pol} {l : List (Int × Int)} {hi : Bool} {er : Int} (h : spnE p l = er) (h0 : er ≠ 0) (hB : Below w.heap.size w w') : EndsPost w p l hi (.returned (.tuple #[.slice none 0 0, .int .i64 er])) w' := by
  have hs : endsL p l hi = [] := by unfold endsL; rw [h, if_neg h0]
  exact ⟨none, 0, by rw [hs, h]; rfl, by rw [hs]; exact Rd.nil _ _ _, hB⟩
theorem bad_ref {s : Int × Int} : badSpn s = !(within s.1 0 2000 && within s.2 0 2000 && !decide (s.2 < s.1)) := by
  unfold badSpn within
  by_cases h : (0 ≤ s.1 ∧ s.1 ≤ 2000) ∧ (0 ≤ s.2 ∧ s.2 ≤ 2000) ∧ ¬ s.2 < s.1
  · obtain ⟨⟨h1, h2⟩, ⟨h3, h4⟩, h5⟩ := h
    simp [h1, h2, h3, h4, h5]; omega
  · rw [Bool.eq_iff_iff]
    simp
    omega

/-- behind the first k spans -/
structure EnSt (W wr : World) (l : List (Int × Int)) (hi : Bool) (k : Nat) (Ao : Option Addr) (co : Nat) (q : List Nat) : Prop where
  own : OwnA wr 3 Ao k co (ints ((l.map (endOf hi)).take k)) q
  new : ∀ g ∈ q, W.heap.size ≤ g
  keep : Keep [] W wr
  ok : ∀ s ∈ l.take k, badSpn s = false
theorem EnSt.below {W wr w2 : World} {l : List (Int × Int)} {hi : Bool} {k : Nat} {Ao : Option Addr} {co : Nat} {q : List Nat} (h : EnSt W wr l hi k Ao co q) (hb : Below wr.heap.size wr w2) : EnSt W w2 l hi k Ao co q :=
  ⟨h.own.keepS (Keep.of_below (S := []) hb) (by simp), h.new, h.keep.trans (Keep.of_below (S := []) hb) (by simp), h.ok⟩
theorem EnSt.app {W wr w5 : World} {l : List (Int × Int)} {hi : Bool} {k : Nat} {Ao : Option Addr} {co : Nat} {q : List Nat} {o : Obj} {g off c' : Nat} {u : Int} (h : EnSt W wr l hi k Ao co q) (hk : k < l.length) (hu : u = endOf hi l[k]) (hb : badSpn l[k] = false)
    (h1 : OwnA w5 3 (some ⟨g, off, none⟩) (k + 1) c' (ints ((l.map (endOf hi)).take k) ++ [.int .i64 u]) [g]) (h2 : g ∈ q ∨ (wr.alloc o).heap.size = g) (h4 : Keep q (wr.alloc o) w5) : EnSt W w5 l hi (k + 1) (some ⟨g, off, none⟩) c' [g] := by
  refine ⟨?_, fun y hy => ?_, (h.keep.alloc _).trans h4 (fun y hy => .inr (h.new _ hy)), fun y hy => ?_⟩
  · rw [List.take_succ_eq_append_getElem (by simpa using hk), List.getElem_map, ← hu]
    simpa [ints] using h1
  · rw [List.mem_singleton.1 hy]
    rcases h2 with h2 | h2
    · exact h.new _ h2
    · have := h.keep.size; simp at h2; omega
  · rw [List.take_succ_eq_append_getElem hk] at hy
    rcases List.mem_append.1 hy with h5 | h5
    · exact h.ok y h5
    · rw [List.mem_singleton.1 h5]; exact hb

set_option maxRecDepth 100000 in
set_option maxHeartbeats 8000000 in
theorem ends_any (As : Option Addr) (cs : Nat) (p : Pol) (A : Option Addr) (c : Nat) (l : List (Int × Int)) (hi : Bool) (w : World) (hp : PolV w As cs p) (hr : Rd w 2 A l.length (spcs l)) (hm : l.length ≤ 9223372036854775807) :
    Calls Tryz.prog 94 #[.agg #[.slice As p.steps.length cs, .int .i64 p.hold, .int .i64 p.calm, .int .i64 p.notice, .int .i64 p.grace], .slice A l.length c, .bool hi] w (EndsPost w p l hi) := by
  obtain ⟨i0, hi', hz0, hz1, hz2⟩ := info_parts info_int
  have rd0 := RD.new (A := none) (days := []) hp (Rd.nil _ _ _)
  obtain ⟨W, hW⟩ : ∃ W, W = w.alloc (.cells #[.slice As p.steps.length cs, .int .i64 p.hold, .int .i64 p.calm, .int .i64 p.notice, .int .i64 p.grace] 65) := ⟨_, rfl⟩
  obtain ⟨ob, hob⟩ : ∃ ob, ob = w.heap.size := ⟨_, rfl⟩
  rw [← hW, ← hob] at rd0
  obtain ⟨er, her⟩ : ∃ er, er = checkS p := ⟨_, rfl⟩
  have k1 := rcheck_any As cs p W rd0.pol
  rw [← her] at k1
  obtain ⟨q0, q1, q2, q3, q4, zp⟩ := rd0.cells
  have HR := Lib.hid (And.intro rd0 (And.intro k1 (And.intro her (hr.below rd0.bel))))
  clear hp hr rd0 k1 her
  go_enter Tryz.func94, Tryz.ntmps94
  go_upto_region 1 with fail
  rw [← hW, ← hob]
  clear hW hob
  go_wp2_with fail
  refine HR.out.2.1.mono ?_
  rintro e w1 ⟨rfl, b1⟩
  have H1 := Lib.hid (And.intro (HR.out.1.bel.trans (b1.mono HR.out.1.bel.size)) (HR.out.2.2.2.below b1))
  clear q0 q1 q2 q3 q4 zp b1
  by_cases h0 : er = 0
  · subst h0
    have HK := Lib.hid ((start_nil p).trans HR.out.2.2.1.symm)
    by_cases hbig : 400 < l.length
    · have hbig' : (400 : Int) < (l.length : Int) := by omega
      have HG := Lib.hid hbig'
      go_wp2_with fail
      go_ret2
      exact EndsPost.bad (spn_many HK.out HG.out) (by decide) H1.out.1
    · have hbig' : ¬ (400 : Int) < (l.length : Int) := by omega
      have hl4 : (l.length : Int) ≤ 400 := by omega
      go_wp2_with fail
      go_loopw [9, 10] (fun o i wr => ∃ (k : Nat) (Ao : Option Addr) (co : Nat) (q : List Nat), k ≤ l.length ∧ i = .int .i64 k ∧ o = .slice Ao k co ∧ EnSt w1 wr l hi k Ao co q) (fun _ i _ => l.length - (intOf i).toNat)
      case atStart => exact ⟨0, none, 0, [], Nat.zero_le _, rfl, rfl, OwnA.nil _ _, by simp, Keep.refl _ _, by simp⟩
      case round =>
        obtain ⟨k, Ao, co, q, hk, rfl, rfl, hst⟩ := hrel
        by_cases hlt : k < l.length
        · have bk : Below w1.heap.size w1 wr := hst.keep.below (Nat.le_refl _) (by simp)
          obtain ⟨b, off, rfl, zb, hc⟩ := (H1.out.2.below bk).2 (by omega)
          obtain ⟨x, hx⟩ : ∃ x, x = l[k] := ⟨_, rfl⟩
          obtain ⟨s0, s1⟩ := spcs_get hlt
          rw [← hx] at s0 s1
          have c0 := hc _ _ s0
          have c1 : wr.cell? ⟨b, off + k*2 + 1, none⟩ = _ := hc _ _ s1
          have n1 : (0 : Int) ≤ (k : Int) := by omega
          have n2 : (k : Int) < (l.length : Int) := by omega
          obtain ⟨r1, hr1⟩ : ∃ r, r = within x.1 0 2000 := ⟨_, rfl⟩
          obtain ⟨r2, hr2⟩ : ∃ r, r = within x.2 0 2000 := ⟨_, rfl⟩
          have in1 : ∀ wx, Calls Tryz.prog 72 #[.int .i64 x.1, .int .i64 0, .int .i64 2000] wx fun e w' => e = .returned (.bool r1) ∧ w' = wx := fun wx => by rw [hr1]; exact (rin_any x.1 0 _ wx).mono fun e w' ⟨h1, h2⟩ => ⟨h1, h2.symm⟩
          have in2 : ∀ wx, Calls Tryz.prog 72 #[.int .i64 x.2, .int .i64 0, .int .i64 2000] wx fun e w' => e = .returned (.bool r2) ∧ w' = wx := fun wx => by rw [hr2]; exact (rin_any x.2 0 _ wx).mono fun e w' ⟨h1, h2⟩ => ⟨h1, h2.symm⟩
          have hlD : (decide (x.2 < x.1) = true ∧ x.2 < x.1) ∨ (decide (x.2 < x.1) = false ∧ ¬ x.2 < x.1) := by by_cases h : x.2 < x.1 <;> simp [h]
          obtain ⟨ok, hok⟩ : ∃ ok, ok = (r1 && r2 && !decide (x.2 < x.1)) := ⟨_, rfl⟩
          have hbd : badSpn x = !ok := by rw [bad_ref, hok, hr1, hr2]
          have HD := Lib.hid (And.intro in1 (And.intro in2 hlD))
          have HO := Lib.hid (And.intro hok (And.intro hbd (And.intro hx (And.intro hst bk))))
          clear hr1 hr2 in1 in2 hlD hok hbd hx hst s0 s1 hc bk
          go_upto_region 10 with fail
          go_cut [53] from 25 to 53 (fun b wx => b = .bool (!ok) ∧ ∃ nq, wx = wr.drewN nq)
          case first =>
            rcases HD.out.2.2 with ⟨e3, _⟩ | ⟨e3, _⟩
            all_goals cases r1
            all_goals cases r2
            all_goals
              go_quiet ((first | (go_at_call 72; with_reducible exact Calls.quiet_of_same (HD.out.1 _)) | (go_at_call 72; with_reducible exact Calls.quiet_of_same (HD.out.2.1 _))))
              go_wp2_with fail
              go_meet
              exact ⟨by rw [HO.out.1, e3]; rfl, _, rfl⟩
          case rest =>
          obtain ⟨rfl, nq, hwc⟩ := hcut
          have bV : Below wr.heap.size wr wc := by rw [hwc]; exact below_drewN (Below.refl _ _) _
          clear hwc
          have c0 := (bV.cell (World.block_lt_of_cell? _ _ c0)).trans c0
          have c1 := (bV.cell (World.block_lt_of_cell? _ _ c1)).trans c1
          have HV := Lib.hid bV
          clear bV
          cases ok
          · go_wp2_with fail
            go_ret2
            exact EndsPost.bad (spn_bad HK.out hl4 hlt (by rw [← HO.out.2.2.1, HO.out.2.1]; rfl)) (by decide) (H1.out.1.trans ((HO.out.2.2.2.2.trans (HV.out.mono HO.out.2.2.2.2.size)).mono H1.out.1.size))
          · have HS := Lib.hid (HO.out.2.2.2.1.below HV.out)
            have hbf : badSpn l[k] = false := by rw [← HO.out.2.2.1, HO.out.2.1]; rfl
            have HF := Lib.hid hbf
            clear hbf
            cases hi
            · go_wp2_with (at_builtin
                           refine wpList_append_A rfl (.tmp 63) (.tmp 69) 22 rfl i0 _ 8 Tryz.underlying22 hi' hz0 hz1 hz2 rfl (A := Ao) (n := k) (c := co) (xs := ints ((l.map (endOf false)).take k)) (fp := q) (by simp [Act.eval]) _ (by simp [Act.eval]) (.int .i64 x.1) (HS.out.own.alloc _) (cell_new_one _ _ _) rfl (by omega) (by omega) ?_
                           intro g' off' c' w5 h1 h2 h3 h4
                           have HQ := Lib.hid (HS.out.app hlt (by rw [HO.out.2.2.1]; rfl) HF.out h1 h2 h4)
                           clear h1 h2 h3 h4)
              go_roundw
              case measure => simp [intOf]; omega
              case rel => exact ⟨k + 1, _, c', _, by omega, by go_num, rfl, HQ.out⟩
            · go_wp2_with (at_builtin
                           refine wpList_append_A rfl (.tmp 55) (.tmp 61) 22 rfl i0 _ 8 Tryz.underlying22 hi' hz0 hz1 hz2 rfl (A := Ao) (n := k) (c := co) (xs := ints ((l.map (endOf true)).take k)) (fp := q) (by simp [Act.eval]) _ (by simp [Act.eval]) (.int .i64 x.2) (HS.out.own.alloc _) (cell_new_one _ _ _) rfl (by omega) (by omega) ?_
                           intro g' off' c' w5 h1 h2 h3 h4
                           have HQ := Lib.hid (HS.out.app hlt (by rw [HO.out.2.2.1]; rfl) HF.out h1 h2 h4)
                           clear h1 h2 h3 h4)
              go_roundw
              case measure => simp [intOf]; omega
              case rel => exact ⟨k + 1, _, c', _, by omega, by go_num, rfl, HQ.out⟩
        · obtain rfl : k = l.length := by omega
          have HS := Lib.hid hst
          clear hst
          go_wp2_with fail
          go_ret2
          have hok : spnE p l = 0 := spn_ok HK.out hl4 (by have := HS.out.ok; rwa [List.take_length] at this)
          have hL : endsL p l hi = l.map (endOf hi) := by unfold endsL; rw [if_pos hok]
          refine ⟨Ao, co, by rw [hL, hok, List.length_map]; rfl, ?_, H1.out.1.trans (HS.out.keep.below H1.out.1.size (by simp))⟩
          have hown := HS.out.own.rd
          rw [List.take_of_length_le (by simp)] at hown
          rw [hL, List.length_map]
          exact hown
  · have hne : (er != 0) = true := by simp [h0]
    have HK := Lib.hid h0
    clear h0
    go_wp2_with fail
    go_ret2
    exact EndsPost.bad (by rw [spn_check (by rw [start_nil, ← HR.out.2.2.1]; exact HK.out), start_nil, HR.out.2.2.1]) HK.out H1.out.1
end Go.Proofs.YtbgnkljjgfcngaaGreat
/- polynyaref08.Bounds -/
namespace Go.Proofs.YtbgnkljjgfcngaaGreat
open Go Go.RowKit Sp
set_option linter.unusedVariables false

def bndL (p : Pol) (l : List (Int × Int)) : List (Int × Int) := if spnE p l = 0 then bndS p l else []
def RBoundsPost (w : World) (p : Pol) (l : List (Int × Int)) (e : Ending) (w' : World) : Prop :=
  ∃ A1 c1, e = .returned (.tuple #[.slice A1 (bndL p l).length c1, .int .i64 (spnE p l)]) ∧ Rd w' 2 A1 (bndL p l).length (spcs (bndL p l)) ∧ Below w.heap.size w w'

/-- what the loop keeps -/
structure BdSt (W wr : World) (L : List (Int × Int)) (k : Nat) (Ao : Option Addr) (co : Nat) (q : List Nat) : Prop where
  own : OwnS wr 33 2 Ao k co (spcs (L.take k)) q
  new : ∀ g ∈ q, W.heap.size ≤ g
  keep : Keep [] W wr
theorem BdSt.app {W wr w2 w5 : World} {L : List (Int × Int)} {k : Nat} {Ao : Option Addr} {co : Nat} {q : List Nat} {o : Obj} {g c' : Nat} {x y : Int} (h : BdSt W wr L k Ao co q) (he : L.take (k + 1) = L.take k ++ [(x, y)]) (h0 : Keep [] wr w2)
    (h1 : OwnS w5 33 2 (some ⟨g, 0, none⟩) (k + 1) c' (spcs (L.take k) ++ [.int .i64 x, .int .i64 y]) [g]) (h2 : g ∈ q ∨ (w2.alloc o).heap.size = g) (h4 : Keep q (w2.alloc o) w5) : BdSt W w5 L (k + 1) (some ⟨g, 0, none⟩) c' [g] := by
  refine ⟨by rw [he, spcs_append]; exact h1, fun y hy => ?_, ((h.keep.trans h0 (by simp)).alloc _).trans h4 (fun y hy => .inr (h.new _ hy))⟩
  rw [List.mem_singleton.1 hy]
  rcases h2 with h2 | h2
  · exact h.new _ h2
  · have := h.keep.size; have := h0.size; simp at h2; omega

set_option maxRecDepth 100000 in
set_option maxHeartbeats 8000000 in
theorem rBounds_any (As : Option Addr) (cs : Nat) (p : Pol) (A : Option Addr) (c : Nat) (l : List (Int × Int)) (w : World) (hp : PolV w As cs p) (hr : Rd w 2 A l.length (spcs l)) (hm : l.length ≤ 9223372036854775807) :
    Calls Tryz.prog 54 #[.agg #[.slice As p.steps.length cs, .int .i64 p.hold, .int .i64 p.calm, .int .i64 p.notice, .int .i64 p.grace], .slice A l.length c] w (RBoundsPost w p l) := by
  obtain ⟨i0, hi, hz0, hz1, hz2⟩ := info_parts info_span
  have rd0 := RD.new (A := none) (days := []) hp (Rd.nil _ _ _)
  obtain ⟨W, hW⟩ : ∃ W, W = w.alloc (.cells #[.slice As p.steps.length cs, .int .i64 p.hold, .int .i64 p.calm, .int .i64 p.notice, .int .i64 p.grace] 65) := ⟨_, rfl⟩
  obtain ⟨ob, hob⟩ : ∃ ob, ob = w.heap.size := ⟨_, rfl⟩
  rw [← hW, ← hob] at rd0
  obtain ⟨er, her⟩ : ∃ er, er = spnE p l := ⟨_, rfl⟩
  have hrW := hr.below rd0.bel
  have k1 := ends_any As cs p A c l false W rd0.pol hrW hm
  unfold EndsPost at k1
  rw [← her] at k1
  obtain ⟨q0, q1, q2, q3, q4, zp⟩ := rd0.cells
  have HR := Lib.hid (And.intro rd0 (And.intro k1 (And.intro her hrW)))
  clear hp hr rd0 k1 her hrW
  go_enter Tryz.func54, Tryz.ntmps54
  go_upto_region 1 with fail
  rw [← hW, ← hob]
  clear hW hob
  go_wp2_with fail
  refine HR.out.2.1.mono ?_
  rintro e w1 ⟨A1, c1, rfl, r1, b1⟩
  have H1 := Lib.hid (And.intro (HR.out.1.below b1) (And.intro (HR.out.2.2.2.below b1) r1))
  clear q0 q1 q2 q3 q4 zp b1 r1
  by_cases h0 : er = 0
  · subst h0
    have hs : spnE p l = 0 := HR.out.2.2.1.symm
    have hck : checkS p = 0 := by
      unfold spnE at hs
      split at hs
      · rename_i h; exact absurd hs h
      · rename_i h; rw [start_nil] at h; simpa using h
    have hl4 : l.length ≤ 400 := by
      unfold spnE at hs
      split at hs
      · rename_i h; exact absurd hs h
      · split at hs
        · cases hs
        · omega
    have k2 := ends_any As cs p A c l true w1 H1.out.1.pol H1.out.2.1 hm
    have e0 : endsL p l false = l.map (·.1) := by unfold endsL; rw [if_pos hs]; rfl
    have e1 : endsL p l true = l.map (·.2) := by unfold endsL; rw [if_pos hs]; rfl
    unfold EndsPost at k2
    rw [hs, e1] at k2
    rw [e0, List.length_map]
    have r1 := H1.out.2.2
    rw [e0, List.length_map] at r1
    rw [List.length_map] at k2
    obtain ⟨q0, q1, q2, q3, q4, zp⟩ := H1.out.1.cells
    have HK := Lib.hid (And.intro hs (And.intro hck (And.intro k2 r1)))
    clear hs hck k2 r1 e0 e1
    go_wp2_with fail
    refine HK.out.2.2.1.mono ?_
    rintro e w2 ⟨A2, c2, rfl, r2, b2⟩
    have rd2 := H1.out.1.below b2
    have f1 : ∀ wx, Below w2.heap.size w2 wx → Calls Tryz.prog 78 #[.agg #[.slice As p.steps.length cs, .int .i64 p.hold, .int .i64 p.calm, .int .i64 p.notice, .int .i64 p.grace], .slice A1 l.length c1] wx (rlistNew wx l.length (forceS p (l.map (·.1)))) := fun wx hb => by
      have h := rforce_new As cs p A1 c1 (l.map (·.1)) wx (rd2.below hb).pol (by rw [List.length_map]; exact (HK.out.2.2.2.below b2).below hb) HK.out.2.1 (by rw [List.length_map]; exact hl4)
      rwa [List.length_map] at h
    have f2 : ∀ wx, Below w2.heap.size w2 wx → Calls Tryz.prog 78 #[.agg #[.slice As p.steps.length cs, .int .i64 p.hold, .int .i64 p.calm, .int .i64 p.notice, .int .i64 p.grace], .slice A2 l.length c2] wx (rlistNew wx l.length (forceS p (l.map (·.2)))) := fun wx hb => by
      have h := rforce_new As cs p A2 c2 (l.map (·.2)) wx (rd2.below hb).pol (by rw [List.length_map]; exact r2.below hb) HK.out.2.1 (by rw [List.length_map]; exact hl4)
      rwa [List.length_map] at h
    obtain ⟨L1, hL1⟩ : ∃ L, L = forceS p (l.map (·.1)) := ⟨_, rfl⟩
    obtain ⟨L2, hL2⟩ : ∃ L, L = forceS p (l.map (·.2)) := ⟨_, rfl⟩
    rw [← hL1] at f1
    rw [← hL2] at f2
    have HF := Lib.hid (And.intro f1 (And.intro f2 (And.intro rd2 (And.intro hL1 hL2))))
    clear q0 q1 q2 q3 q4 zp r2 b2 f1 f2 hL1 hL2
    obtain ⟨q0, q1, q2, q3, q4, zp⟩ := rd2.cells
    have KC : ∀ {b o : Nat} {u : Value}, w2.cell? ⟨b, o, none⟩ = some u → ∀ w', Below w2.heap.size w2 w' → w'.cell? ⟨b, o, none⟩ = some u := fun h w' hb => (hb.cell (World.block_lt_of_cell? w2 _ h)).trans h
    have q0' := KC q0
    have q1' := KC q1
    have q2' := KC q2
    have q3' := KC q3
    have q4' := KC q4
    clear KC rd2 q0 q1 q2 q3 q4
    go_upto_region 5 with fail
    go_region_held3 (fun w' => Below w2.heap.size w2 w') (first | exact (Below.refl _ _).drew | assumption)
      (first
        | (go_at_call 78
           refine (HF.out.2.1 _ B3).mono ?_
           rintro e w4 ⟨Ay, cy, rfl, ry, gy1, gy2, b4, ny⟩
           have B4 : Below w2.heap.size w2 w4 := B3.trans (b4.mono B3.size)
           have RY := Lib.hid (And.intro (RX.out.below b4) ry)
           clear b4 ry gy1 gy2 ny)
        | (go_at_call 78
           refine (HF.out.1 _ (Below.refl _ _).drew).mono ?_
           rintro e w3 ⟨Ax, cx, rfl, rx, gx1, gx2, b3, nx⟩
           have B3 : Below w2.heap.size w2 w3 := (Below.refl _ _).drew.trans b3
           have RX := Lib.hid rx
           clear b3 rx gx1 gx2 nx))
    have HB := Lib.hid B4
    clear B3 B4 RX q0' q1' q2' q3' q4' zp
    obtain ⟨W4, rfl⟩ : ∃ W, W = w4 := ⟨_, rfl⟩
    obtain ⟨L, hL⟩ : ∃ L, L = bndS p l := ⟨_, rfl⟩
    have HLL := Lib.hid hL
    clear hL
    go_wp2_with fail
    go_loopw [12, 13] (fun o i wr => ∃ (k : Nat) (Ao : Option Addr) (co : Nat) (q : List Nat), k ≤ l.length ∧ i = .int .i64 k ∧ o = .slice Ao k co ∧ BdSt W4 wr L k Ao co q) (fun _ i _ => l.length - (intOf i).toNat)
    case atStart => exact ⟨0, none, 0, [], Nat.zero_le _, rfl, rfl, OwnS.nil _ _ _, by simp, Keep.refl _ _⟩
    case round =>
      obtain ⟨k, Ao, co, q, hk, rfl, rfl, hst⟩ := hrel
      by_cases hlt : k < l.length
      · obtain ⟨bl, ol, rfl, hbl, hcl⟩ := RY.out.1.2 (by omega)
        obtain ⟨bm, om, rfl, hbm, hcm⟩ := RY.out.2.2 (by omega)
        obtain ⟨x, hx⟩ : ∃ x, x = L1.getD k 0 := ⟨_, rfl⟩
        obtain ⟨y, hy⟩ : ∃ y, y = L2.getD k 0 := ⟨_, rfl⟩
        have c0 := hcl k (.int .i64 x) (by rw [hx]; exact ints_get (by rw [HF.out.2.2.2.1, forceS_length, List.length_map]; exact hlt))
        have c1 := hcm k (.int .i64 y) (by rw [hy]; exact ints_get (by rw [HF.out.2.2.2.2, forceS_length, List.length_map]; exact hlt))
        have c0' : ∀ w', Keep q wr w' → w'.cell? ⟨bl, ol + k, none⟩ = some (.int .i64 x) := fun w' hk => hk.cell (hst.keep.cell c0 (by simp)) (fun hm => by have := hst.new _ hm; omega)
        have c1' : ∀ w', Keep q wr w' → w'.cell? ⟨bm, om + k, none⟩ = some (.int .i64 y) := fun w' hk => hk.cell (hst.keep.cell c1 (by simp)) (fun hm => by have := hst.new _ hm; omega)
        have htk : L.take (k + 1) = L.take k ++ [(x, y)] := by rw [HLL.out, bndS_take p l hlt, hx, hy, HF.out.2.2.2.1, HF.out.2.2.2.2]
        have n1 : (0 : Int) ≤ (k : Int) := by omega
        have n2 : (k : Int) < (l.length : Int) := by omega
        have HS := Lib.hid (And.intro hst htk)
        clear hst htk hx hy hcl hcm c0 c1
        go_upto_region 10 with fail
        go_region_held3 (fun w' => Keep q wr w') (first | exact (Keep.refl _ _).drew | assumption | exact ((Keep.refl _ _).drew).alloc _)
          ((refine step_append_S (size := 2) rfl (.tmp 41) (.tmp 51) 46 rfl i0 _ 16 Tryz.underlying46 hi hz0 hz1 (by decide) hz2 rfl (A := Ao) (n := k) (c := co) (xs := spcs (L.take k)) (fp := q) (by simp [Act.eval]) ⟨wr.heap.size, 0, none⟩ (by simp [Act.eval]) [.int .i64 x, .int .i64 y] ((HS.out.1.own.keepS ((Keep.refl [] wr).drew) (by simp)).alloc _) rfl (spc_cells wr.drew x y _) (by simp [Value.oneCell']) (by omega) (by omega) ?_
            intro g c' w5 h1 h2 h3 h4
            have K5 : Keep q wr w5 := (((Keep.refl q wr).drew).alloc _).trans h4 (fun y hy => .inl hy)
            have HQ := Lib.hid (HS.out.1.app HS.out.2 ((Keep.refl [] wr).drew) h1 h2 h4)
            clear h1 h2 h3 h4))
        go_wp2_with fail
        go_roundw
        case measure => simp [intOf]; omega
        case rel => exact ⟨k + 1, _, c', [g], by omega, by go_num, rfl, HQ.out⟩
      · obtain rfl : k = l.length := by omega
        have HS := Lib.hid hst
        clear hst
        go_wp2_with fail
        go_ret2
        have hbl : bndL p l = bndS p l := by unfold bndL; rw [if_pos HK.out.1]
        refine ⟨Ao, co, by rw [hbl, HK.out.1, bndS_length]; rfl, ?_, (HF.out.2.2.1.bel.trans (HB.out.mono HF.out.2.2.1.bel.size)).trans (HS.out.keep.below (HF.out.2.2.1.bel.trans (HB.out.mono HF.out.2.2.1.bel.size)).size (by simp))⟩
        have hown := HS.out.own.rd
        rw [List.take_of_length_le (by rw [HLL.out, bndS_length]; exact Nat.le_refl _), HLL.out] at hown
        rw [hbl, bndS_length]
        exact hown
  · have hne : (er != 0) = true := by simp [h0]
    have HK := Lib.hid h0
    clear h0
    go_wp2_with fail
    go_ret2
    have hbl : bndL p l = [] := by unfold bndL; rw [if_neg (by rw [← HR.out.2.2.1]; exact HK.out)]
    exact ⟨none, 0, by rw [hbl, ← HR.out.2.2.1]; rfl, by rw [hbl]; exact Rd.nil _ _ _, H1.out.1.bel⟩
end Go.Proofs.YtbgnkljjgfcngaaGreat
/- restrict.Sure -/
namespace Go.Proofs.YtbgnkljjgfcngaaGreat
open Go Go.RowKit Sp
set_option linter.unusedVariables false

/-- what Sure answers -/
def sureE (p : Pol) (l : List (Int × Int)) (v : Ves) (day : Int) : Int := if spnE p l ≠ 0 then spnE p l else if vright v = false then 1 else if within day 0 ((l.length : Int) - 1) then 0 else 6
def sureB (p : Pol) (l : List (Int × Int)) (v : Ves) (day : Int) : Bool := if sureE p l v day = 0 then (passesS p (l.map (·.2)) v).getD day.toNat false else false
def perhB (p : Pol) (l : List (Int × Int)) (v : Ves) (day : Int) : Bool := if sureE p l v day = 0 then (passesS p (l.map (·.1)) v).getD day.toNat false else false
theorem sure_not {p : Pol} {l : List (Int × Int)} {v : Ves} {day e : Int} (h : sureE p l v day = e) (he : e ≠ 0) : sureB p l v day = false ∧ perhB p l v day = false := by
  unfold sureB perhB
  rw [h, if_neg he, if_neg he]; exact ⟨rfl, rfl⟩
theorem sure_spn {p : Pol} {l : List (Int × Int)} {v : Ves} {day : Int} (h : spnE p l ≠ 0) : sureE p l v day = spnE p l := by unfold sureE; rw [if_pos h]
theorem sure_arg {p : Pol} {l : List (Int × Int)} {v : Ves} {day : Int} (h : spnE p l = 0) (hv : vright v = false) : sureE p l v day = 1 := by unfold sureE; rw [if_neg (fun f => f h), if_pos hv]
theorem sure_day {p : Pol} {l : List (Int × Int)} {v : Ves} {day : Int} (h : spnE p l = 0) (hv : vright v = true) : sureE p l v day = if within day 0 ((l.length : Int) - 1) then 0 else 6 := by unfold sureE; rw [if_neg (fun f => f h), if_neg (by rw [hv]; decide)]
def SurePost (w : World) (p : Pol) (l : List (Int × Int)) (v : Ves) (day : Int) (e : Ending) (w' : World) : Prop :=
  e = .returned (.tuple #[.bool (sureB p l v day), .bool (perhB p l v day), .int .i64 (sureE p l v day)]) ∧ Below w.heap.size w w'

structure SuS where
  g1 : Nat
  o1 : Nat
  c1 : Nat
  g2 : Nat
  o2 : Nat
  c2 : Nat
set_option linter.unusedVariables false
def SuV (W0 : World) (pb : Nat) (A1 A2 : Option Addr) (n c1 c2 d : Nat) (ve : Ves) (x y : Bool) (s : SuS) : Nat → Value → Prop
  | 0, v => v = .agg #[.pointer (some ⟨pb, 0, none⟩)]
  | 1, v => v = .slice A2 n c2
  | 2, v => v = .agg #[.int .i64 ve.cls, .int .i64 ve.ton, .bool ve.esc]
  | 3, v => v = .slice (some ⟨s.g1, s.o1, none⟩) n s.c1
  | 4, v => v = .int .i64 d
  | 5, v => v = .pointer (some ⟨s.g1, s.o1 + d, none⟩)
  | 6, v => v = .bool x
  | 7, v => v = .agg #[.pointer (some ⟨pb, 0, none⟩)]
  | 8, v => v = .slice A1 n c1
  | 9, v => v = .agg #[.int .i64 ve.cls, .int .i64 ve.ton, .bool ve.esc]
  | 10, v => v = .slice (some ⟨s.g2, s.o2, none⟩) n s.c2
  | 11, v => v = .int .i64 d
  | 12, v => v = .pointer (some ⟨s.g2, s.o2 + d, none⟩)
  | 13, v => v = .bool y
  | 14, v => v = .bool x
  | 15, v => v = .bool y
  | 16, v => v = .int .i64 0
  | _, _ => True
def SuW (W0 : World) (pb : Nat) (A1 A2 : Option Addr) (n c1 c2 d : Nat) (ve : Ves) (x y : Bool) (s : SuS) (l : Nat → Bool) (w : World) : Prop := Below W0.heap.size W0 w ∧ (l 3 = true → w.cell? ⟨s.g1, s.o1 + d, none⟩ = some (.bool x)) ∧ (l 10 = true → w.cell? ⟨s.g2, s.o2 + d, none⟩ = some (.bool y))

set_option maxRecDepth 100000 in
set_option maxHeartbeats 4000000 in
theorem Sure_any (As : Option Addr) (cs : Nat) (p : Pol) (A : Option Addr) (c : Nat) (l : List (Int × Int)) (v : Ves) (day : Int) (w : World) (hp : PolV w As cs p) (hr : Rd w 2 A l.length (spcs l)) (hm : l.length ≤ 9223372036854775807) :
    Calls Tryz.prog 55 #[.agg #[.slice As p.steps.length cs, .int .i64 p.hold, .int .i64 p.calm, .int .i64 p.notice, .int .i64 p.grace], .slice A l.length c, .agg #[.int .i64 v.cls, .int .i64 v.ton, .bool v.esc], .int .i64 day] w (SurePost w p l v day) := by
  obtain ⟨er, her⟩ : ∃ er, er = spnE p l := ⟨_, rfl⟩
  obtain ⟨W0, hW0⟩ : ∃ W0, W0 = (w.alloc (.cells #[.slice As p.steps.length cs, .int .i64 p.hold, .int .i64 p.calm, .int .i64 p.notice, .int .i64 p.grace] 25)).alloc (.cells #[.int .i64 v.cls, .int .i64 v.ton, .bool v.esc] 29) := ⟨_, rfl⟩
  obtain ⟨vb, hvb⟩ : ∃ vb, vb = w.heap.size + 1 := ⟨_, rfl⟩
  have b0 : Below w.heap.size w W0 := by rw [hW0]; exact ((Below.refl _ _).alloc (Nat.le_refl _) _).alloc (by simp) _
  have hv0 : W0.heap[vb]? = some (.cells #[.int .i64 v.cls, .int .i64 v.ton, .bool v.esc] 29 (0, 0)) := by
    rw [hW0, hvb]
    have := heap_alloc_new (w.alloc (.cells #[.slice As p.steps.length cs, .int .i64 p.hold, .int .i64 p.calm, .int .i64 p.notice, .int .i64 p.grace] 25)) (.cells #[.int .i64 v.cls, .int .i64 v.ton, .bool v.esc] 29)
    rwa [World.size_alloc] at this
  have hb0 : W0.heap[w.heap.size]? = some (.cells #[.slice As p.steps.length cs, .int .i64 p.hold, .int .i64 p.calm, .int .i64 p.notice, .int .i64 p.grace] 25 (0, 0)) := by rw [hW0]; exact heap_alloc' (heap_alloc_new _ _) _
  have t0 := (cell_of_heap hb0 0).trans rfl
  have t1 := (cell_of_heap hb0 1).trans rfl
  have t2 := (cell_of_heap hb0 2).trans rfl
  have t3 := (cell_of_heap hb0 3).trans rfl
  have t4 := (cell_of_heap hb0 4).trans rfl
  have hst : Calls Tryz.prog 67 #[.agg #[.slice As p.steps.length cs, .int .i64 p.hold, .int .i64 p.calm, .int .i64 p.notice, .int .i64 p.grace], .slice A l.length c] W0
      fun e w1 => ∃ pp A1 n1 c1 A2 n2 c2, e = .returned (.tuple #[.agg #[.pointer pp], .slice A1 n1 c1, .slice A2 n2 c2, .int .i64 er]) ∧ Below w.heap.size w w1 ∧ w1.heap[vb]? = some (.cells #[.int .i64 v.cls, .int .i64 v.ton, .bool v.esc] 29 (0, 0)) ∧
        (er = 0 → ∃ pb, pp = some ⟨pb, 0, none⟩ ∧ PolAt w1 pb p ∧ n1 = l.length ∧ n2 = l.length ∧ Rd w1 1 A1 l.length (ints (l.map (·.1))) ∧ Rd w1 1 A2 l.length (ints (l.map (·.2))) ∧ l.length ≤ 400) := by
    refine (bounds_any As cs p A c l W0 ⟨hp.1, hp.2.1, hp.2.2.below b0⟩ (hr.below b0) hm).mono ?_
    rintro e w1 ⟨pp, A1, n1, c1, A2, n2, c2, rfl, hB, h0⟩
    exact ⟨pp, A1, n1, c1, A2, n2, c2, by rw [her], b0.trans (hB.mono b0.size), (hB.block _ (heap_lt hv0)).trans hv0, fun h => h0 (her.symm.trans h)⟩
  have HP := Lib.hid (And.intro her (And.intro hst (And.intro hW0 hvb)))
  clear her hst b0 hr hv0 hb0
  go_enter Tryz.func55, Tryz.ntmps55
  go_upto_region 1 with fail
  rw [← hW0, ← hvb]
  clear hW0 hvb
  go_wp2_with fail
  refine HP.out.2.1.mono ?_
  rintro e w1 ⟨pp, A1, n1, c1, A2, n2, c2, rfl, hB, hv1, hpol⟩
  clear t0 t1 t2 t3 t4
  by_cases h0 : er = 0
  · subst h0
    obtain ⟨pb, rfl, hpa, rfl, rfl, r1, r2, hl4⟩ := hpol rfl
    have hck : checkS p = 0 := by
      have := HP.out.1.symm
      unfold spnE at this
      split at this
      · rename_i h; exact absurd this h
      · rename_i h; rw [start_nil] at h; simpa using h
    have HC := Lib.hid (check_ok hck)
    obtain ⟨W, hW⟩ : ∃ W, W = w1.alloc (.cells #[.pointer (some ⟨pb, 0, none⟩)] 132) := ⟨_, rfl⟩
    obtain ⟨rb, hrb⟩ : ∃ rb, rb = w1.heap.size := ⟨_, rfl⟩
    have bw : Below w1.heap.size w1 W := by rw [hW]; exact (Below.refl _ _).alloc (Nat.le_refl _) _
    have bW : Below w.heap.size w W := hB.trans (bw.mono hB.size)
    have fr : W.cell? ⟨rb, 0, none⟩ = some (.pointer (some ⟨pb, 0, none⟩)) := by rw [hW, hrb]; exact cell_new_one _ _ _
    have hv2 : W.heap[vb]? = some (.cells #[.int .i64 v.cls, .int .i64 v.ton, .bool v.esc] 29 (0, 0)) := (bw.block _ (heap_lt hv1)).trans hv1
    have HB := Lib.hid (And.intro bW (And.intro (hpa.below bw) (And.intro (r1.below bw) (And.intro (r2.below bw) hv2))))
    have zr := World.block_lt_of_cell? W _ fr
    have zv := heap_lt hv2
    have v0 := (cell_of_heap hv2 0).trans rfl
    have v1 := (cell_of_heap hv2 1).trans rfl
    have v2 := (cell_of_heap hv2 2).trans rfl
    clear hpol hpa r1 r2 bw bW hck hB hv1 hv2
    go_upto_region 2 with fail
    rw [← hW, ← hrb]
    clear hW hrb
    obtain ⟨vr, hvr⟩ : ∃ vr, vr = vright v := ⟨_, rfl⟩
    have hrt : ∀ wx, Calls Tryz.prog 68 #[.agg #[.int .i64 v.cls, .int .i64 v.ton, .bool v.esc]] wx fun e w' => e = .returned (.bool vr) ∧ Below wx.heap.size wx w' := fun wx => by rw [hvr]; exact right_any v wx
    have HV := Lib.hid (And.intro hvr hrt)
    clear hvr hrt
    cases vr
    · go_wp2_with (go_at_call 68; refine (HV.out.2 _).mono ?_; rintro e w2 ⟨rfl, b2⟩)
      go_ret3
      have he : sureE p l v day = 1 := sure_arg HP.out.1.symm HV.out.1.symm
      have hn := sure_not he (by decide)
      exact ⟨by rw [he, hn.1, hn.2]; rfl, HB.out.1.trans (b2.mono HB.out.1.size)⟩
    · obtain ⟨dr, hdr⟩ : ∃ dr, dr = within day 0 ((l.length : Int) - 1) := ⟨_, rfl⟩
      have hin : ∀ wx, Calls Tryz.prog 69 #[.int .i64 day, .int .i64 0, .int .i64 ((l.length : Int) - 1)] wx fun e w' => e = .returned (.bool dr) ∧ wx = w' := fun wx => by rw [hdr]; exact within_any day 0 _ wx
      have HD := Lib.hid (And.intro hdr hin)
      clear hdr hin
      cases dr
      · go_wp2_with (first | (go_at_call 68; refine (HV.out.2 _).mono ?_; rintro e w2 ⟨rfl, b2⟩) | (go_at_call 69; refine (HD.out.2 _).mono ?_; rintro e w3 ⟨rfl, rfl⟩))
        go_ret3
        have he : sureE p l v day = 6 := by rw [sure_day HP.out.1.symm HV.out.1.symm, ← HD.out.1]; rfl
        have hn := sure_not he (by decide)
        exact ⟨by rw [he, hn.1, hn.2]; rfl, HB.out.1.trans (b2.mono HB.out.1.size)⟩
      · have hlt : 0 ≤ day ∧ day < l.length := by have := HD.out.1; simp [within] at this; omega
        obtain ⟨d, rfl⟩ : ∃ d : Nat, day = d := ⟨day.toNat, by omega⟩
        have hdl : d < l.length := by omega
        have he : sureE p l v (d : Int) = 0 := by rw [sure_day HP.out.1.symm HV.out.1.symm, ← HD.out.1]; rfl
        obtain ⟨x, hx⟩ : ∃ x, x = (passesS p (l.map (·.2)) v).getD d false := ⟨_, rfl⟩
        obtain ⟨y, hy⟩ : ∃ y, y = (passesS p (l.map (·.1)) v).getD d false := ⟨_, rfl⟩
        have HX := Lib.hid (And.intro he (And.intro hx hy))
        have HPA : ∀ (xs : List Int) (Ax : Option Addr) (cx : Nat) (W' : World), Below W.heap.size W W' → xs.length = l.length → Rd W 1 Ax l.length (ints xs) → Calls Tryz.prog 70 #[.agg #[.pointer (some ⟨pb, 0, none⟩)], .slice Ax l.length cx, .agg #[.int .i64 v.cls, .int .i64 v.ton, .bool v.esc]] W'
            fun e w' => ∃ g o c, e = .returned (.slice (some ⟨g, o, none⟩) l.length c) ∧ w'.cell? ⟨g, o + d, none⟩ = some (.bool ((passesS p xs v).getD d false)) ∧ Below W'.heap.size W' w' := by
          intro xs Ax cx W' hW' hxl hx
          have hx2 : Rd W' 1 Ax xs.length (ints xs) := by rw [hxl]; exact hx.below hW'
          have := passes_any pb p Ax cx xs v W' (HB.out.2.1.below hW') ⟨HC.out.2.2.1, by have := HC.out.2.2.2.1; omega⟩ ⟨HC.out.2.2.2.2.1, by have := HC.out.2.2.2.2.2.1; omega⟩ ⟨HC.out.2.2.2.2.2.2.1, by have := HC.out.2.2.2.2.2.2.2.1; omega⟩ HC.out.1 (vright_cls HV.out.1.symm) hx2 (by omega)
          rw [hxl] at this
          refine this.mono ?_
          rintro e w' ⟨A3, c3, q3, rfl, o3, _, b3⟩
          have hxd : d < (passesS p xs v).length := by rw [passesS_length, hxl]; exact hdl
          rw [hxl] at o3
          obtain ⟨g, o, rfl, _, _, hc, _⟩ := o3.some_ (by omega)
          exact ⟨g, o, c3, by rw [hxl], hc d _ (bools_get hxd), b3⟩
        have HPAS := Lib.hid HPA
        have n1 : (0 : Int) ≤ (d : Int) := by omega
        have n2 : (d : Int) < (l.length : Int) := by omega
        clear he hx hy HPA hlt
        go_upto_region 8 with (first | (go_at_call 68; refine (HV.out.2 _).mono ?_; rintro e w2 ⟨rfl, b2⟩; have HB2 := Lib.hid b2; have v0 := (b2.cell (p := ⟨vb, 0, none⟩) zv).trans v0; have v1 := (b2.cell (p := ⟨vb, 1, none⟩) zv).trans v1; have v2 := (b2.cell (p := ⟨vb, 2, none⟩) zv).trans v2; have fr := (b2.cell (p := ⟨rb, 0, none⟩) zr).trans fr; have zs := b2.size; clear b2) | (go_at_call 69; refine (HD.out.2 _).mono ?_; rintro e w3 ⟨rfl, rfl⟩))
        have zv2 : vb < w2.heap.size := by omega
        have zr2 : rb < w2.heap.size := by omega
        refine wp_region_steps (σ := SuS) (by kernel_rfl) (by kernel_rfl) (fun sg jx vx _ => SuV w2 pb A1 A2 l.length c1 c2 d v x y sg jx vx) (fun sg ly wx => SuW w2 pb A1 A2 l.length c1 c2 d v x y sg ly wx) ⟨0, 0, 0, 0, 0, 0⟩ ?_ ?_ ?_
        · exact ⟨(Below.refl _ _).drew, fun h => by simp at h, fun h => by simp at h⟩
        · simp only [AllFrom, Nat.zero_add, Nat.reduceAdd]
          refine ⟨?_, ?_, ?_, ?_, ?_, ?_, ?_, ?_, ?_, ?_, ?_, ?_, ?_, ?_, ?_, ?_, ?_, trivial⟩
          · refine step_pure fun sg ly a wr hl hd hW hF => ?_
            have et11 := hF.old 11 (by kernel_rfl)
            simp [Act.eval] at et11
            have c8 := (hW.1.cell (p := ⟨rb, 0, none⟩) zr2).trans fr
            exact ⟨by simpa [SuW, upd] using hW, .agg #[.pointer (some ⟨pb, 0, none⟩)], by go_simp, rfl⟩
          · refine step_pure fun sg ly a wr hl hd hW hF => ?_
            have et13 := hF.old 13 (by kernel_rfl)
            simp [Act.eval] at et13
            exact ⟨by simpa [SuW, upd] using hW, .slice A2 l.length c2, by go_simp, rfl⟩
          · refine step_pure fun sg ly a wr hl hd hW hF => ?_
            have et6 := hF.old 6 (by kernel_rfl)
            simp [Act.eval] at et6
            have k0 := (hW.1.cell (p := ⟨vb, 0, none⟩) zv2).trans v0
            have k1 := (hW.1.cell (p := ⟨vb, 1, none⟩) zv2).trans v1
            have k2 := (hW.1.cell (p := ⟨vb, 2, none⟩) zv2).trans v2
            exact ⟨by simpa [SuW, upd] using hW, .agg #[.int .i64 v.cls, .int .i64 v.ton, .bool v.esc], by go_simp, rfl⟩
          · refine step_call fun sg ly a wr hl hd hW hF => ?_
            simp [Region.binds] at hd
            have et38 := hF.new 0 38 (by simp [hd]) rfl
            simp [SuV, Act.eval] at et38
            have et39 := hF.new 1 39 (by simp [hd]) rfl
            simp [SuV, Act.eval] at et39
            have et40 := hF.new 2 40 (by simp [hd]) rfl
            simp [SuV, Act.eval] at et40
            have nz := hF.notYet 3 5 hl (by kernel_rfl)
            refine ⟨70, #[.agg #[.pointer (some ⟨pb, 0, none⟩)], .slice A2 l.length c2, .agg #[.int .i64 v.cls, .int .i64 v.ton, .bool v.esc]], by go_simp, ?_⟩
            refine (HPAS.out (l.map (·.2)) A2 c2 wr (HB2.out.trans (hW.1.mono zs)) (by simp) HB.out.2.2.2.1).mono ?_
            rintro e w4 ⟨g, o, cx, rfl, cd, b1⟩
            refine ⟨_, { sg with g1 := g, o1 := o, c1 := cx }, rfl, ⟨hW.1.trans (b1.mono hW.1.size), fun _ => by rw [HX.out.2.1]; exact cd, fun h8 => (b1.cell (World.block_lt_of_cell? _ _ (hW.2.2 (by simpa [upd] using h8)))).trans (hW.2.2 (by simpa [upd] using h8))⟩, rfl, ?_⟩
            intro i u hi h
            have i3 : i ≠ 3 := by rintro rfl; rw [hl] at hi; cases hi
            have i5 : i ≠ 5 := by rintro rfl; rw [nz] at hi; cases hi
            unfold SuV at h ⊢
            split at h <;> first | exact h | exact absurd rfl i3 | exact absurd rfl i5
          · refine step_pure fun sg ly a wr hl hd hW hF => ?_
            have et3 := hF.old 3 (by kernel_rfl)
            simp [Act.eval] at et3
            exact ⟨by simpa [SuW, upd] using hW, .int .i64 d, by go_simp, rfl⟩
          · refine step_pure fun sg ly a wr hl hd hW hF => ?_
            simp [Region.binds] at hd
            have et41 := hF.new 3 41 (by simp [hd]) rfl
            simp [SuV, Act.eval] at et41
            have et42 := hF.new 4 42 (by simp [hd]) rfl
            simp [SuV, Act.eval] at et42
            exact ⟨by simpa [SuW, upd] using hW, .pointer (some ⟨sg.g1, sg.o1 + d, none⟩), by go_simp, rfl⟩
          · refine step_pure fun sg ly a wr hl hd hW hF => ?_
            simp [Region.binds] at hd
            have et43 := hF.new 5 43 (by simp [hd]) rfl
            simp [SuV, Act.eval] at et43
            have y3 := hF.before 3 5 (by simp [hd]) (by kernel_rfl)
            have cd := hW.2.1 y3
            exact ⟨by simpa [SuW, upd] using hW, .bool x, by go_simp, rfl⟩
          · refine step_pure fun sg ly a wr hl hd hW hF => ?_
            have et11 := hF.old 11 (by kernel_rfl)
            simp [Act.eval] at et11
            have c8 := (hW.1.cell (p := ⟨rb, 0, none⟩) zr2).trans fr
            exact ⟨by simpa [SuW, upd] using hW, .agg #[.pointer (some ⟨pb, 0, none⟩)], by go_simp, rfl⟩
          · refine step_pure fun sg ly a wr hl hd hW hF => ?_
            have et12 := hF.old 12 (by kernel_rfl)
            simp [Act.eval] at et12
            exact ⟨by simpa [SuW, upd] using hW, .slice A1 l.length c1, by go_simp, rfl⟩
          · refine step_pure fun sg ly a wr hl hd hW hF => ?_
            have et6 := hF.old 6 (by kernel_rfl)
            simp [Act.eval] at et6
            have k0 := (hW.1.cell (p := ⟨vb, 0, none⟩) zv2).trans v0
            have k1 := (hW.1.cell (p := ⟨vb, 1, none⟩) zv2).trans v1
            have k2 := (hW.1.cell (p := ⟨vb, 2, none⟩) zv2).trans v2
            exact ⟨by simpa [SuW, upd] using hW, .agg #[.int .i64 v.cls, .int .i64 v.ton, .bool v.esc], by go_simp, rfl⟩
          · refine step_call fun sg ly a wr hl hd hW hF => ?_
            simp [Region.binds] at hd
            have et45 := hF.new 7 45 (by simp [hd]) rfl
            simp [SuV, Act.eval] at et45
            have et46 := hF.new 8 46 (by simp [hd]) rfl
            simp [SuV, Act.eval] at et46
            have et47 := hF.new 9 47 (by simp [hd]) rfl
            simp [SuV, Act.eval] at et47
            have nz := hF.notYet 10 12 hl (by kernel_rfl)
            refine ⟨70, #[.agg #[.pointer (some ⟨pb, 0, none⟩)], .slice A1 l.length c1, .agg #[.int .i64 v.cls, .int .i64 v.ton, .bool v.esc]], by go_simp, ?_⟩
            refine (HPAS.out (l.map (·.1)) A1 c1 wr (HB2.out.trans (hW.1.mono zs)) (by simp) HB.out.2.2.1).mono ?_
            rintro e w4 ⟨g, o, cx, rfl, cd, b1⟩
            refine ⟨_, { sg with g2 := g, o2 := o, c2 := cx }, rfl, ⟨hW.1.trans (b1.mono hW.1.size), fun h8 => (b1.cell (World.block_lt_of_cell? _ _ (hW.2.1 (by simpa [upd] using h8)))).trans (hW.2.1 (by simpa [upd] using h8)), fun _ => by rw [HX.out.2.2]; exact cd⟩, rfl, ?_⟩
            intro i u hi h
            have i10 : i ≠ 10 := by rintro rfl; rw [hl] at hi; cases hi
            have i12 : i ≠ 12 := by rintro rfl; rw [nz] at hi; cases hi
            unfold SuV at h ⊢
            split at h <;> first | exact h | exact absurd rfl i10 | exact absurd rfl i12
          · refine step_pure fun sg ly a wr hl hd hW hF => ?_
            have et3 := hF.old 3 (by kernel_rfl)
            simp [Act.eval] at et3
            exact ⟨by simpa [SuW, upd] using hW, .int .i64 d, by go_simp, rfl⟩
          · refine step_pure fun sg ly a wr hl hd hW hF => ?_
            simp [Region.binds] at hd
            have et48 := hF.new 10 48 (by simp [hd]) rfl
            simp [SuV, Act.eval] at et48
            have et49 := hF.new 11 49 (by simp [hd]) rfl
            simp [SuV, Act.eval] at et49
            exact ⟨by simpa [SuW, upd] using hW, .pointer (some ⟨sg.g2, sg.o2 + d, none⟩), by go_simp, rfl⟩
          · refine step_pure fun sg ly a wr hl hd hW hF => ?_
            simp [Region.binds] at hd
            have et50 := hF.new 12 50 (by simp [hd]) rfl
            simp [SuV, Act.eval] at et50
            have y10 := hF.before 10 12 (by simp [hd]) (by kernel_rfl)
            have cd := hW.2.2 y10
            exact ⟨by simpa [SuW, upd] using hW, .bool y, by go_simp, rfl⟩
          · refine step_pure fun sg ly a wr hl hd hW hF => ?_
            simp [Region.binds] at hd
            have et44 := hF.new 6 44 (by simp [hd]) rfl
            simp [SuV, Act.eval] at et44
            exact ⟨by simpa [SuW, upd] using hW, .bool x, by go_simp, rfl⟩
          · refine step_pure fun sg ly a wr hl hd hW hF => ?_
            simp [Region.binds] at hd
            have et51 := hF.new 13 51 (by simp [hd]) rfl
            simp [SuV, Act.eval] at et51
            exact ⟨by simpa [SuW, upd] using hW, .bool y, by go_simp, rfl⟩
          · refine step_pure fun sg ly a wr hl hd hW hF => ?_
            exact ⟨by simpa [SuW, upd] using hW, .int .i64 0, by go_simp, rfl⟩
        intro sg a w3 hW hF
        have v8 := hF.new 14 8 rfl rfl
        have v9 := hF.new 15 9 rfl rfl
        have v10 := hF.new 16 10 rfl rfl
        simp only [SuV] at v8 v9 v10
        obtain ⟨f, hf, rfl⟩ := hF.lit
        have f8 := (hf 8).trans v8
        have f9 := (hf 9).trans v9
        have f10 := (hf 10).trans v10
        have b3 := Lib.hid hW.1
        simp only [List.filterMap, List.foldl, List.setIfInBounds_toArray, List.set_cons_succ, List.set_cons_zero]
        rw [f8, f9, f10]
        clear hf hF v10 v8 v9 f8 f9 f10 hW
        go_wp2_with fail
        go_ret3
        refine ⟨?_, HB.out.1.trans ((HB2.out.trans (b3.out.mono zs)).mono HB.out.1.size)⟩
        rw [sureB, perhB, HX.out.1, if_pos rfl, if_pos rfl, Int.toNat_natCast, ← HX.out.2.1, ← HX.out.2.2]; rfl
  · have hne : (er != 0) = true := by simp [h0]
    have HK := Lib.hid h0
    have HB := Lib.hid hB
    clear h0 hpol hB
    go_wp2_with fail
    go_ret3
    have he : sureE p l v day = er := by rw [sure_spn (by rw [← HP.out.1]; exact HK.out), HP.out.1]
    have hn := sure_not he HK.out
    exact ⟨by rw [he, hn.1, hn.2]; rfl, HB.out.alloc HB.out.size _⟩
end Go.Proofs.YtbgnkljjgfcngaaGreat
