/- restrict.Review -/
import Derived.Test.YtalcinepeofmcaaDoorRSp4
set_option linter.unusedVariables false
set_option linter.unusedSimpArgs false
namespace Go.Proofs.YtalcinepeofmcaaDoor
open Go Go.RowKit Sp


structure Psg where
  ves : Ves
  ent : Int
  lea : Int
deriving DecidableEq, Inhabited

def psc (x : Psg) : List Value := [.int .i64 x.ves.cls, .int .i64 x.ves.ton, .bool x.ves.esc, .int .i64 x.ent, .int .i64 x.lea]
def pscs (l : List Psg) : List Value := l.flatMap psc
theorem pscs_get {l : List Psg} {k : Nat} (hk : k < l.length) : (pscs l)[k*5]? = some (.int .i64 l[k].ves.cls) ∧ (pscs l)[k*5+1]? = some (.int .i64 l[k].ves.ton) ∧ (pscs l)[k*5+2]? = some (.bool l[k].ves.esc) ∧ (pscs l)[k*5+3]? = some (.int .i64 l[k].ent) ∧ (pscs l)[k*5+4]? = some (.int .i64 l[k].lea) := by
  induction l generalizing k with
  | nil => simp at hk
  | cons s l ih =>
    cases k with
    | zero => simp [pscs, psc]
    | succ k =>
      have h4 : ∀ j, (pscs (s :: l))[5 + j]? = (pscs l)[j]? := fun j => by
        simp only [pscs, List.flatMap_cons, psc]
        rw [List.getElem?_append_right (by simp)]
        simp
      have e : ∀ j, (k+1)*5 + j = 5 + (k*5 + j) := fun j => by omega
      have e0 : (k+1)*5 = 5 + k*5 := by omega
      have hk' : k < l.length := by simpa using hk
      rw [e, e, e, e, e0, h4, h4, h4, h4, h4]
      simpa using ih hk'

def psgE (n : Int) (x : Psg) : Int := if !vright x.ves then 1 else if !within x.ent 0 (n - 1) || !within x.lea x.ent (n - 1) then 6 else 0
/-- the error of the first passage that has one -/
def psgsE (n : Int) : List Psg → Int
  | [] => 0
  | x :: l => if psgE n x = 0 then psgsE n l else psgE n x
theorem psgsE_zero {n : Int} {l : List Psg} (h : ∀ x ∈ l, psgE n x = 0) : psgsE n l = 0 := by
  induction l with
  | nil => rfl
  | cons x l ih => rw [psgsE, if_pos (h x (by simp)), ih (fun y hy => h y (by simp [hy]))]
theorem psgsE_at {n : Int} {l : List Psg} {k : Nat} (hk : k < l.length) (h : ∀ x ∈ l.take k, psgE n x = 0) (h1 : psgE n l[k] ≠ 0) : psgsE n l = psgE n l[k] := by
  induction l generalizing k with
  | nil => simp at hk
  | cons x l ih =>
    cases k with
    | zero => rw [psgsE, if_neg (by simpa using h1)]; rfl
    | succ k => rw [psgsE, if_pos (h x (by simp)), ih (by simpa using hk) (fun y hy => h y (by simp [hy])) (by simpa using h1)]; rfl
def outcome (p : Pol) (days : List Int) (x : Psg) : Int :=
  let f := idxL false (((passesS p days x.ves).drop x.ent.toNat).take (x.lea + 1 - x.ent).toNat)
  if f = 0 then 1 else if 0 < f ∧ x.ent + f + p.grace < x.lea then 2 else 0
def reviewE (p : Pol) (days : List Int) (l : List Psg) : Int := if startS p days ≠ 0 then startS p days else if (500 : Int) < l.length then 2 else psgsE days.length l
def reviewS (p : Pol) (days : List Int) (l : List Psg) : List Int := if reviewE p days l = 0 then l.map (outcome p days) else []
theorem review_start {p : Pol} {days : List Int} {l : List Psg} (h : startS p days ≠ 0) : reviewE p days l = startS p days := by unfold reviewE; rw [if_pos h]
theorem review_many {p : Pol} {days : List Int} {l : List Psg} (h : startS p days = 0) (h1 : (500 : Int) < l.length) : reviewE p days l = 2 := by unfold reviewE; rw [if_neg (fun f => f h), if_pos h1]
theorem review_psgs {p : Pol} {days : List Int} {l : List Psg} (h : startS p days = 0) (h1 : ¬ (500 : Int) < l.length) : reviewE p days l = psgsE days.length l := by unfold reviewE; rw [if_neg (fun f => f h), if_neg h1]

theorem psg_ok {n : Nat} {x : Psg} (h : psgE n x = 0) : vright x.ves = true ∧ ∃ a z : Nat, x.ent = a ∧ x.lea = z ∧ a ≤ z ∧ z < n := by
  unfold psgE at h
  cases hv : vright x.ves
  · rw [hv] at h; cases h
  · rw [hv] at h
    cases h1 : within x.ent 0 ((n : Int) - 1)
    · rw [h1] at h; cases h
    · cases h2 : within x.lea x.ent ((n : Int) - 1)
      · rw [h1, h2] at h; cases h
      · simp [within] at h1 h2
        exact ⟨rfl, x.ent.toNat, x.lea.toNat, by omega, by omega, by omega, by omega⟩


def ReviewPost (w : World) (p : Pol) (days : List Int) (l : List Psg) (e : Ending) (w' : World) : Prop :=
  ∃ A c, e = .returned (.tuple #[.slice A (reviewS p days l).length c, .int .i64 (reviewE p days l)]) ∧ IntsAt w' A c (reviewS p days l) ∧ Below w.heap.size w w'
theorem ReviewPost.bad {w w' : World} {p : Pol} {days : List Int} {l : List Psg} {er : Int} (h : reviewE p days l = er) (h0 : er ≠ 0) (hB : Below w.heap.size w w') : ReviewPost w p days l (.returned (.tuple #[.slice none 0 0, .int .i64 er])) w' := by
  have hs : reviewS p days l = [] := by unfold reviewS; rw [h, if_neg h0]
  exact ⟨none, 0, by rw [hs, h]; rfl, by rw [hs]; exact ⟨Rd.nil _ _ _, Nat.le_refl _, by omega⟩, hB⟩


set_option maxRecDepth 100000 in
set_option maxHeartbeats 4000000 in
theorem Review_any (As : Option Addr) (cs : Nat) (p : Pol) (A : Option Addr) (c : Nat) (days : List Int) (Al : Option Addr) (cl : Nat) (l : List Psg) (w : World) (hp : PolV w As cs p) (hr : Rd w 1 A days.length (ints days)) (hm : days.length ≤ 9223372036854775807)
    (hrl : Rd w 5 Al l.length (pscs l)) (hml : l.length ≤ 9223372036854775807) :
    Calls Tryd.prog 35 #[.agg #[.slice As p.steps.length cs, .int .i64 p.hold, .int .i64 p.calm, .int .i64 p.notice, .int .i64 p.grace], .slice A days.length c, .slice Al l.length cl] w (ReviewPost w p days l) := by
  obtain ⟨i0, hi, hz0, hz1, hz2⟩ := info_parts info_int
  obtain ⟨er, her⟩ : ∃ er, er = startS p days := ⟨_, rfl⟩
  have b0 : ∀ o, Below w.heap.size w (w.alloc o) := fun o => (Below.refl _ _).alloc (Nat.le_refl _) _
  have hst : ∀ o, Calls Tryd.prog 56 #[.agg #[.slice As p.steps.length cs, .int .i64 p.hold, .int .i64 p.calm, .int .i64 p.notice, .int .i64 p.grace], .slice A days.length c]
      (w.alloc o)
      fun e w1 => ∃ pp, e = .returned (.tuple #[.agg #[.pointer pp], .int .i64 er]) ∧ Below w.heap.size w w1 ∧ (er = 0 → ∃ pb, pp = some ⟨pb, 0, none⟩ ∧ PolAt w1 pb p) := by
    intro o
    refine (start8_any As cs p A c days _ ⟨hp.1, hp.2.1, hp.2.2.below (b0 _)⟩ (hr.below (b0 _)) hm).mono ?_
    rintro e w1 ⟨pp, rfl, hB, h0, _⟩
    exact ⟨pp, by rw [her], (b0 _).trans (hB.mono (by simp)), fun h => h0 (her.symm.trans h)⟩
  have HP := Lib.hid (And.intro her (And.intro hr (And.intro hrl hst)))
  clear her hst b0 hr hrl hp
  by_cases h0 : er = 0
  · subst h0
    have hs0 : startS p days = 0 := HP.out.1.symm
    obtain ⟨hck, hl4, _⟩ := start_ok hs0
    have HC := Lib.hid (check_ok hck)
    have hne : ((0 : Int) != 0) = false := rfl
    have HK := Lib.hid hs0
    clear hs0 hck
    by_cases h5 : (500 : Int) < (l.length : Int)
    · go_enter Tryd.func35, Tryd.ntmps35
      go_wp2_with fail
      refine (HP.out.2.2.2 _).mono ?_
      rintro e w1 ⟨pp, rfl, hB, _⟩
      go_wp2_with fail
      go_ret2
      exact ReviewPost.bad (review_many HK.out h5) (by decide) (hB.alloc hB.size _)
    · have h5' : (l.length : Int) ≤ 500 := by omega
      have hre := Lib.hid (review_psgs (l := l) HK.out h5)
      clear h5
      go_enter Tryd.func35, Tryd.ntmps35
      go_wp2_with fail
      refine (HP.out.2.2.2 _).mono ?_
      rintro e w1 ⟨pp, rfl, hB, hpp⟩
      obtain ⟨pb, rfl, hpol⟩ := hpp trivial
      have HB := Lib.hid (And.intro hB hpol)
      have hsz : w.heap.size ≤ w1.heap.size := hB.size
      clear hB hpol hpp
      go_wp2_with fail
      obtain ⟨W, hW⟩ : ∃ W, W = w1.alloc (.cells #[.pointer (some ⟨pb, 0, none⟩)] 101) := ⟨_, rfl⟩
      rw [← hW]
      have f8 : W.cell? ⟨w1.heap.size, 0, none⟩ = some (.pointer (some ⟨pb, 0, none⟩)) := by rw [hW]; exact cell_new_one _ _ _
      have bW : Below w.heap.size w W := by rw [hW]; exact HB.out.1.alloc hsz _
      have pW : PolAt W pb p := by rw [hW]; exact HB.out.2.below ((Below.refl _ _).alloc (Nat.le_refl _) _)
      have zW : w1.heap.size < W.heap.size := by rw [hW]; simp
      generalize hs1 : w1.heap.size = s1 at f8 zW ⊢
      have hrl := HP.out.2.2.1.below bW
      have hrd := HP.out.2.1.below bW
      have HW := Lib.hid (And.intro bW (And.intro pW (And.intro hrd (And.intro hrl f8))))
      clear hW bW pW hrd f8 HB HP hs1 hsz
      go_loopg [33] (l.length) (fun g i wr => ∃ k : Nat, g + k = l.length ∧ i = .int .i64 k ∧ (∀ x ∈ l.take k, psgE days.length x = 0) ∧ Below W.heap.size W wr)
      case atStart => exact ⟨0, rfl, rfl, by simp, Below.refl _ _⟩
      case round =>
        obtain ⟨k, hk, rfl, hb, hB⟩ := hrel
        have HB := Lib.hid (And.intro hb hB)
        clear hb
        by_cases hlt : k < l.length
        · obtain ⟨b, off, rfl, hbb, hc⟩ := hrl.2 (by omega)
          obtain ⟨x, hx⟩ : ∃ x, x = l[k] := ⟨_, rfl⟩
          obtain ⟨s0, s1, s2, s3, s4⟩ := pscs_get hlt
          rw [← hx] at s0 s1 s2 s3 s4
          have bc := (bcell hB).1
          have c0 := (bc b (off + k*5) hbb).trans (hc _ _ s0)
          have c1 := (bc b (off + k*5 + 1) hbb).trans (hc _ _ s1)
          have c2 := (bc b (off + k*5 + 2) hbb).trans (hc _ _ s2)
          have c3 := (bc b (off + k*5 + 3) hbb).trans (hc _ _ s3)
          have c4 := (bc b (off + k*5 + 4) hbb).trans (hc _ _ s4)
          clear hc s0 s1 s2 s3 s4 bc
          have hwr := hB.size
          have HX := Lib.hid (And.intro hx (And.intro hB hlt))
          clear hx hB hrl
          obtain ⟨vr, hvr⟩ : ∃ vr, vr = vright x.ves := ⟨_, rfl⟩
          obtain ⟨d1, hd1⟩ : ∃ d1, d1 = within x.ent 0 ((days.length : Int) - 1) := ⟨_, rfl⟩
          obtain ⟨d2, hd2⟩ : ∃ d2, d2 = within x.lea x.ent ((days.length : Int) - 1) := ⟨_, rfl⟩
          have HD := Lib.hid (And.intro hvr (And.intro hd1 hd2))
          clear hvr hd1 hd2
          have hbad : ∀ {er : Int} {w' : World}, psgE days.length x = er → er ≠ 0 → Below wr.heap.size wr w' → ReviewPost w p days l (.returned (.tuple #[.slice none 0 0, .int .i64 er])) w' := fun he h0 hB => by
            refine ReviewPost.bad (hre.out.trans ?_) h0 ((HW.out.1.trans (HX.out.2.1.mono HW.out.1.size)).trans (hB.mono (by have := HW.out.1.size; omega)))
            rw [psgsE_at hlt HB.out.1 (by rw [← HX.out.1, he]; exact h0), ← HX.out.1, he]
          have hcall : ∀ vr, vr = vright x.ves → Calls Tryd.prog 40 #[.agg #[.int .i64 x.ves.cls, .int .i64 x.ves.ton, .bool x.ves.esc]] (wr.alloc (.cells #[.int .i64 x.ves.cls, .int .i64 x.ves.ton, .bool x.ves.esc, .int .i64 x.ent, .int .i64 x.lea] 92)) fun e w' => e = .returned (.bool vr) ∧ Below wr.heap.size wr w' ∧ w'.cell? ⟨wr.heap.size, 3, none⟩ = some (.int .i64 x.ent) ∧ w'.cell? ⟨wr.heap.size, 4, none⟩ = some (.int .i64 x.lea) ∧ wr.heap.size < w'.heap.size := by
            rintro vr rfl
            refine (right_any x.ves _).mono ?_
            rintro e w2 ⟨rfl, b2⟩
            refine ⟨rfl, ((Below.refl _ _).alloc (Nat.le_refl _) _).trans (b2.mono (by simp)), ?_, ?_, by have := b2.size; simp at this; omega⟩
            · rw [b2.cell (p := ⟨wr.heap.size, 3, none⟩) (by simp), World.cell?_alloc_new]; rfl
            · rw [b2.cell (p := ⟨wr.heap.size, 4, none⟩) (by simp), World.cell?_alloc_new]; rfl
          have HQ := Lib.hid (And.intro (@hbad) hcall)
          clear hbad hcall
          cases vr
          · go_wp2_with (go_at_call 40; refine (HQ.out.2 _ HD.out.1).mono ?_; rintro e w2 ⟨rfl, b2, f3, f4, z2⟩)
            go_ret2
            exact HQ.out.1 (by unfold psgE; rw [← HD.out.1]; rfl) (by decide) b2
          · cases d1
            · have hd1 := HD.out.2.1.symm
              go_wp2_with (first | (go_at_call 40; refine (HQ.out.2 _ HD.out.1).mono ?_; rintro e w2 ⟨rfl, b2, f3, f4, z2⟩) | (go_at_call 22; refine (within_any _ _ _ _).mono ?_; rintro e w3 ⟨rfl, rfl⟩))
              go_ret2
              exact HQ.out.1 (by unfold psgE; rw [← HD.out.1, ← HD.out.2.1]; rfl) (by decide) b2
            · have hd1 := HD.out.2.1.symm
              cases d2
              · have hd2 := HD.out.2.2.symm
                go_wp2_with (first | (go_at_call 40; refine (HQ.out.2 _ HD.out.1).mono ?_; rintro e w2 ⟨rfl, b2, f3, f4, z2⟩) | (go_at_call 22; refine (within_any _ _ _ _).mono ?_; rintro e w3 ⟨rfl, rfl⟩))
                go_ret2
                exact HQ.out.1 (by unfold psgE; rw [← HD.out.1, ← HD.out.2.1, ← HD.out.2.2]; rfl) (by decide) b2
              · have hd2 := HD.out.2.2.symm
                go_wp2_with (first | (go_at_call 40; refine (HQ.out.2 _ HD.out.1).mono ?_; rintro e w2 ⟨rfl, b2, f3, f4, z2⟩) | (go_at_call 22; refine (within_any _ _ _ _).mono ?_; rintro e w3 ⟨rfl, rfl⟩))
                go_roundg (gk - 1)
                case measure => omega
                case rel =>
                  refine ⟨k + 1, by omega, by go_num, ?_, HX.out.2.1.trans (b2.mono hwr)⟩
                  rw [List.take_succ_eq_append_getElem hlt]
                  intro y hy
                  rcases List.mem_append.1 hy with h1 | h1
                  · exact HB.out.1 y h1
                  · rw [List.mem_singleton.1 h1, ← HX.out.1]
                    unfold psgE; rw [← HD.out.1, ← HD.out.2.1, ← HD.out.2.2]; rfl
        · obtain rfl : k = l.length := by omega
          have hall : ∀ x ∈ l, psgE days.length x = 0 := by have := HB.out.1; rwa [List.take_length] at this
          have hre0 : reviewE p days l = 0 := hre.out.trans (psgsE_zero hall)
          have HL := Lib.hid (And.intro hall hre0)
          clear hall hre0 hre hrl
          have pB := HW.out.2.1.below hB
          have c8 := (hB.cell (p := ⟨s1, 0, none⟩) zW).trans HW.out.2.2.2.2
          have hwr := hB.size
          have zr : s1 < wr.heap.size := by omega
          have hrl := HW.out.2.2.2.1.below hB
          have hrd := HW.out.2.2.1.below hB
          have bw : Below w.heap.size w wr := HW.out.1.trans (hB.mono HW.out.1.size)
          have HR := Lib.hid (And.intro bw (And.intro pB hrd))
          clear HB HW hB pB hwr zW hrd bw hlt hk
          obtain ⟨gr, hgr⟩ : ∃ gr, gr = p.grace := ⟨_, rfl⟩
          have hg4 : wr.cell? ⟨pb, 4, none⟩ = some (.int .i64 gr) := by
            obtain ⟨Ap, cp, hh, _⟩ := HR.out.2.1
            rw [cell_of_heap hh, hgr]; rfl
          have hg0 : 0 ≤ gr ∧ gr ≤ 60 := by rw [hgr]; exact HC.out.2.2.2.2.2.2.2.2
          have zp : pb < wr.heap.size := by obtain ⟨Ap, cp, hh, _⟩ := HR.out.2.1; exact heap_lt hh
          have HG := Lib.hid hgr
          clear hgr
          go_wp2_with fail
          generalize hw2 : wr = W2 at *
          go_loopw [12, 64] (fun o i wr => ∃ (k : Nat) (Ao : Option Addr) (co : Nat) (q : List Nat), k ≤ l.length ∧ i = .int .i64 k ∧ o = .slice Ao k co ∧ OwnA wr 3 Ao k co (ints ((l.take k).map (outcome p days))) q ∧ (∀ g ∈ q, W2.heap.size ≤ g) ∧ Keep [] W2 wr)
            (fun _ i _ => l.length - (intOf i).toNat)
          case atStart => exact ⟨0, none, 0, [], Nat.zero_le _, rfl, rfl, OwnA.nil _ _, by simp, Keep.refl _ _⟩
          case round =>
            obtain ⟨k, Ao, co, q, hk, rfl, rfl, hown, hq, hK⟩ := hrel
            by_cases hlt : k < l.length
            · obtain ⟨b, off, rfl, hbb, hc⟩ := hrl.2 (by omega)
              obtain ⟨x, hx⟩ : ∃ x, x = l[k] := ⟨_, rfl⟩
              obtain ⟨s0, s1', s2, s3, s4⟩ := pscs_get hlt
              rw [← hx] at s0 s1' s2 s3 s4
              have hx0 : psgE days.length x = 0 := by rw [hx]; exact HL.out.1 _ (List.getElem_mem hlt)
              obtain ⟨hxv, a, z, ha, hz, haz, hzn⟩ := psg_ok hx0
              rw [ha] at s3
              rw [hz] at s4
              have bk : ∀ o u, W2.cell? ⟨b, o, none⟩ = some u → wr.cell? ⟨b, o, none⟩ = some u := fun o u h => hK.cell h (by simp)
              have c0 := bk (off + k*5) _ (hc _ _ s0)
              have c1 := bk (off + k*5 + 1) _ (hc _ _ s1')
              have c2 := bk (off + k*5 + 2) _ (hc _ _ s2)
              have c3 := bk (off + k*5 + 3) _ (hc _ _ s3)
              have c4 := bk (off + k*5 + 4) _ (hc _ _ s4)
              clear bk
              have c5 := hK.cell c8 (by simp)
              have c6 := hK.cell hg4 (by simp)
              have zk := hK.size
              have z1 : s1 < wr.heap.size := by omega
              have z2 : pb < wr.heap.size := by omega
              have HO := Lib.hid (And.intro hown (And.intro hq hK))
              have HX := Lib.hid (And.intro hx (And.intro hxv (And.intro ha hz)))
              clear hc s0 s1' s2 s3 s4 hown hq hx hxv ha hz hx0
              have hpa : Calls Tryd.prog 41 #[.agg #[.pointer (some ⟨pb, 0, none⟩)], .slice A days.length c, .agg #[.int .i64 x.ves.cls, .int .i64 x.ves.ton, .bool x.ves.esc]] (wr.alloc (.cells #[.int .i64 x.ves.cls, .int .i64 x.ves.ton, .bool x.ves.esc, .int .i64 a, .int .i64 z] 92))
                  fun e w3 => ∃ g o c9 q9, e = .returned (.slice (some ⟨g, o, none⟩) days.length c9) ∧ (OwnA w3 4 (some ⟨g, o, none⟩) days.length c9 (bools (passesS p days x.ves)) q9 ∧ Below wr.heap.size wr w3) ∧ z + 1 ≤ c9 ∧ c9 ≤ 9223372036854775807 ∧ w3.cell? ⟨wr.heap.size, 3, none⟩ = some (.int .i64 a) ∧ w3.cell? ⟨wr.heap.size, 4, none⟩ = some (.int .i64 z) ∧ w3.cell? ⟨s1, 0, none⟩ = some (.pointer (some ⟨pb, 0, none⟩)) ∧ w3.cell? ⟨pb, 4, none⟩ = some (.int .i64 gr) := by
                have bk : Below W2.heap.size W2 (wr.alloc (.cells #[.int .i64 x.ves.cls, .int .i64 x.ves.ton, .bool x.ves.esc, .int .i64 a, .int .i64 z] 92)) := (hK.below (Nat.le_refl _) (by simp)).alloc zk _
                refine (passes_any pb p A c days x.ves _ (HR.out.2.1.below bk) ⟨HC.out.2.2.1, by have := HC.out.2.2.2.1; omega⟩ ⟨HC.out.2.2.2.2.1, by have := HC.out.2.2.2.2.2.1; omega⟩ ⟨HC.out.2.2.2.2.2.2.1, by have := HC.out.2.2.2.2.2.2.2.1; omega⟩ HC.out.1 (vright_cls HX.out.2.1) (HR.out.2.2.below bk) (by omega)).mono ?_
                rintro e w3 ⟨A3, c9, q9, rfl, o3, n3, b3⟩
                obtain ⟨g, o, rfl, _⟩ := o3.some_ (by omega)
                have hge := o3.ge
                have bb : Below wr.heap.size wr w3 := ((Below.refl _ _).alloc (Nat.le_refl _) _).trans (b3.mono (by simp))
                refine ⟨g, o, c9, q9, rfl, ⟨o3, bb⟩, by omega, o3.cap, ?_, ?_, (bb.cell (p := ⟨s1, 0, none⟩) z1).trans c5, (bb.cell (p := ⟨pb, 4, none⟩) z2).trans c6⟩
                · rw [b3.cell (p := ⟨wr.heap.size, 3, none⟩) (by simp), World.cell?_alloc_new]; rfl
                · rw [b3.cell (p := ⟨wr.heap.size, 4, none⟩) (by simp), World.cell?_alloc_new]; rfl
              have HA := Lib.hid hpa
              clear hpa hK
              go_upto_region 19 with (go_at_call 41; refine HA.out.mono ?_; rintro e w3 ⟨g, o, c9, q9, rfl, hob, hc9, hm9, f3, f4, f5, f6⟩; have HB3 := Lib.hid hob; clear hob)
              have hL : ((passesS p days x.ves).drop a |>.take (z + 1 - a)).length = z + 1 - a := by rw [List.length_take, List.length_drop, passesS_length]; omega
              have hix : Calls Tryd.prog 65 #[.slice (some ⟨g, o + a, none⟩) (z + 1 - a) (c9 - a), .bool false] w3 fun e w' => e = .returned (.int .i64 (idxL false ((passesS p days x.ves).drop a |>.take (z + 1 - a)))) ∧ w3 = w' := by
                have := indexB_any (some ⟨g, o + a, none⟩) (c9 - a) ((passesS p days x.ves).drop a |>.take (z + 1 - a)) false w3 ?_ ?_
                · rwa [hL] at this
                · rw [hL]
                  obtain ⟨g', o', e1, _, hl, hcc, _⟩ := HB3.out.1.some_ (by omega)
                  injection e1 with e1
                  injection e1 with e1 e2 _
                  subst e1 e2
                  have := rd_sub (a := a) (m := z + 1 - a) HB3.out.1.rd (by omega) hl hcc
                  rwa [bools, ← List.map_drop, ← List.map_take] at this
                · omega
              obtain ⟨f, hf⟩ : ∃ f, f = idxL false ((passesS p days x.ves).drop a |>.take (z + 1 - a)) := ⟨_, rfl⟩
              rw [← hf] at hix
              have HF := Lib.hid hf
              have HI := Lib.hid hix
              have hfr : -1 ≤ f ∧ f ≤ 400 := by have := idxL_range false ((passesS p days x.ves).drop a |>.take (z + 1 - a)); rw [hL, ← hf] at this; omega
              clear hf hix hL
              go_upto_region 21 with (go_at_call 65; refine HI.out.mono ?_; rintro e w4 ⟨rfl, rfl⟩)
              have ho3 := Lib.hid (HO.out.1.keepS (Keep.of_below (S := []) HB3.out.2) (by simp))
              have z3 := HB3.out.2.size
              have hout : outcome p days x = if f = 0 then 1 else if 0 < f ∧ (a : Int) + f + gr < z then 2 else 0 := by
                unfold outcome
                rw [HX.out.2.2.1, HX.out.2.2.2, ← HG.out]
                have e1 : ((a : Int)).toNat = a := by omega
                have e2 : ((z : Int) + 1 - (a : Int)).toNat = z + 1 - a := by omega
                rw [e1, e2, ← HF.out]
              have HOU := Lib.hid hout
              clear hout
              obtain ⟨oc, hoc⟩ : ∃ oc, oc = outcome p days x := ⟨_, rfl⟩
              have hrel2 : ∀ g' off' c' w5 wm, Below wr.heap.size wr wm → (OwnA w5 3 (some ⟨g', off', none⟩) (k + 1) c' (ints ((l.take k).map (outcome p days)) ++ [.int .i64 oc]) [g'] ∧ (g' ∈ q ∨ wr.heap.size ≤ g') ∧ Keep q wm w5) →
                  OwnA w5 3 (some ⟨g', off', none⟩) (k + 1) c' (ints ((l.take (k + 1)).map (outcome p days))) [g'] ∧ (∀ g ∈ [g'], W2.heap.size ≤ g) ∧ Keep [] W2 w5 := by
                intro g' off' c' w5 wm hbm ⟨h1, h2, h4⟩
                refine ⟨?_, ?_, (HO.out.2.2.trans (Keep.of_below (S := []) hbm) (by simp)).trans h4 (fun y hy => .inr (HO.out.2.1 y hy))⟩
                · rw [List.take_succ_eq_append_getElem hlt, List.map_append, ← HX.out.1]
                  rw [hoc] at h1
                  simpa [ints] using h1
                · intro y hy
                  rw [List.mem_singleton.1 hy]
                  rcases h2 with h2 | h2
                  · exact HO.out.2.1 _ h2
                  · omega
              have HE := Lib.hid (And.intro hrel2 hoc)
              clear hrel2 hoc
              by_cases hf0 : f = 0
              · subst hf0
                obtain rfl : oc = 1 := HE.out.2.trans (HOU.out.trans (by simp))
                go_wp2_with (at_builtin
                             refine wpList_append_A rfl (.tmp 87) (.tmp 88) 40 rfl i0 _ 8 Tryd.underlying40 hi hz0 hz1 hz2 rfl (A := Ao) (n := k) (c := co) (xs := ints ((l.take k).map (outcome p days))) (fp := q) (by simp [Act.eval]) _ (by simp [Act.eval]) (.int .i64 1) (ho3.out.alloc _) (cell_new_one _ _ _) rfl (by omega) (by omega) ?_
                             intro g' off' c' w5 h1 h2 h3 h4
                             have HQ := Lib.hid (And.intro h1 (And.intro h2 h4))
                             clear h1 h2 h3 h4)
                go_roundw
                case measure => simp [intOf]; omega
                case rel =>
                  obtain ⟨r1, r2, r3⟩ := HE.out.1 g' off' c' w5 _ (HB3.out.2.alloc z3 _) ⟨HQ.out.1, HQ.out.2.1.imp id (fun h => by simp at h; omega), HQ.out.2.2⟩
                  exact ⟨k + 1, _, c', _, by omega, by go_num, rfl, r1, r2, r3⟩
              · have hfe : (f == 0) = false := by simp [hf0]
                by_cases hf1 : 0 < f
                · have hfd : decide (0 < f) = true := by simp [hf1]
                  by_cases hla : (a : Int) + f + gr < z
                  · have hld : decide ((a : Int) + f + gr < z) = true := by simp [hla]
                    obtain rfl : oc = 2 := HE.out.2.trans (HOU.out.trans (by rw [if_neg hf0, if_pos ⟨hf1, hla⟩]))
                    go_upto_region 23 with fail
                    go_quiet (fail)
                    go_wp2_with (at_builtin
                                 refine wpList_append_A rfl (.tmp 108) (.tmp 109) 40 rfl i0 _ 8 Tryd.underlying40 hi hz0 hz1 hz2 rfl (A := Ao) (n := k) (c := co) (xs := ints ((l.take k).map (outcome p days))) (fp := q) (by simp [Act.eval]) _ (by simp [Act.eval]) (.int .i64 2) (ho3.out.alloc _) (cell_new_one _ _ _) rfl (by omega) (by omega) ?_
                                 intro g' off' c' w5 h1 h2 h3 h4
                                 have HQ := Lib.hid (And.intro h1 (And.intro h2 h4))
                                 clear h1 h2 h3 h4)
                    go_roundw
                    case measure => simp [intOf]; omega
                    case rel =>
                      obtain ⟨r1, r2, r3⟩ := HE.out.1 g' off' c' w5 _ ((below_drewN HB3.out.2 _).alloc z3 _) ⟨HQ.out.1, HQ.out.2.1.imp id (fun h => by simp at h; omega), HQ.out.2.2⟩
                      exact ⟨k + 1, _, c', _, by omega, by go_num, rfl, r1, r2, r3⟩
                  · have hld : decide ((a : Int) + f + gr < z) = false := by simp [hla]
                    obtain rfl : oc = 0 := HE.out.2.trans (HOU.out.trans (by rw [if_neg hf0, if_neg (fun h => hla h.2)]))
                    go_upto_region 23 with fail
                    go_quiet (fail)
                    go_wp2_with (at_builtin
                                 refine wpList_append_A rfl (.tmp 81) (.tmp 82) 40 rfl i0 _ 8 Tryd.underlying40 hi hz0 hz1 hz2 rfl (A := Ao) (n := k) (c := co) (xs := ints ((l.take k).map (outcome p days))) (fp := q) (by simp [Act.eval]) _ (by simp [Act.eval]) (.int .i64 0) (ho3.out.alloc _) (cell_new_one _ _ _) rfl (by omega) (by omega) ?_
                                 intro g' off' c' w5 h1 h2 h3 h4
                                 have HQ := Lib.hid (And.intro h1 (And.intro h2 h4))
                                 clear h1 h2 h3 h4)
                    go_roundw
                    case measure => simp [intOf]; omega
                    case rel =>
                      obtain ⟨r1, r2, r3⟩ := HE.out.1 g' off' c' w5 _ ((below_drewN HB3.out.2 _).alloc z3 _) ⟨HQ.out.1, HQ.out.2.1.imp id (fun h => by simp at h; omega), HQ.out.2.2⟩
                      exact ⟨k + 1, _, c', _, by omega, by go_num, rfl, r1, r2, r3⟩
                · have hfd : decide (0 < f) = false := by simp [hf1]
                  obtain rfl : oc = 0 := HE.out.2.trans (HOU.out.trans (by rw [if_neg hf0, if_neg (fun h => hf1 h.1)]))
                  go_upto_region 23 with fail
                  go_quiet (fail)
                  go_wp2_with (at_builtin
                               refine wpList_append_A rfl (.tmp 81) (.tmp 82) 40 rfl i0 _ 8 Tryd.underlying40 hi hz0 hz1 hz2 rfl (A := Ao) (n := k) (c := co) (xs := ints ((l.take k).map (outcome p days))) (fp := q) (by simp [Act.eval]) _ (by simp [Act.eval]) (.int .i64 0) (ho3.out.alloc _) (cell_new_one _ _ _) rfl (by omega) (by omega) ?_
                               intro g' off' c' w5 h1 h2 h3 h4
                               have HQ := Lib.hid (And.intro h1 (And.intro h2 h4))
                               clear h1 h2 h3 h4)
                  go_roundw
                  case measure => simp [intOf]; omega
                  case rel =>
                    obtain ⟨r1, r2, r3⟩ := HE.out.1 g' off' c' w5 _ ((below_drewN HB3.out.2 _).alloc z3 _) ⟨HQ.out.1, HQ.out.2.1.imp id (fun h => by simp at h; omega), HQ.out.2.2⟩
                    exact ⟨k + 1, _, c', _, by omega, by go_num, rfl, r1, r2, r3⟩
            · obtain rfl : k = l.length := by omega
              go_wp2_with fail
              go_ret2
              refine ⟨Ao, co, ?_, ?_, HR.out.1.trans (hK.below HR.out.1.size (by simp))⟩
              · rw [reviewS, HL.out.2, if_pos rfl, List.length_map]; rfl
              · rw [reviewS, HL.out.2, if_pos rfl]
                rw [List.take_length] at hown
                exact ⟨by rw [List.length_map]; exact hown.rd, by rw [List.length_map]; exact hown.ge, hown.cap⟩
  · have hne : (er != 0) = true := by simp [h0]
    have hs0 : startS p days ≠ 0 := fun h => h0 (HP.out.1.trans h)
    have HK := Lib.hid (And.intro hs0 h0)
    clear hs0 h0
    go_enter Tryd.func35, Tryd.ntmps35
    go_wp2_with fail
    refine (HP.out.2.2.2 _).mono ?_
    rintro e w1 ⟨pp, rfl, hB, _⟩
    have HB := Lib.hid hB
    clear hB
    go_wp2_with fail
    go_ret2
    exact ReviewPost.bad ((review_start HK.out.1).trans HP.out.1.symm) HK.out.2 (HB.out.alloc HB.out.size _)
end Go.Proofs.YtalcinepeofmcaaDoor
/- rules.shows -/
namespace Go.Proofs.YtalcinepeofmcaaDoor
open Go Go.RowKit Sp

def allGe (m : Int) (xs : List Int) (a : Nat) : Nat → Bool
  | 0 => true
  | n + 1 => allGe m xs a n && decide (m ≤ xs.getD (a + n) 0)
theorem allGe_false {m : Int} {xs : List Int} {a k : Nat} (h : ¬ m ≤ xs.getD (a + k) 0) : ∀ {n}, k < n → allGe m xs a n = false
  | 0, hk => absurd hk (by omega)
  | n + 1, hk => by
    unfold allGe
    by_cases e : k = n
    · subst e; rw [decide_eq_false h, Bool.and_false]
    · rw [allGe_false h (by omega : k < n), Bool.false_and]
theorem allGe_succ {m : Int} {xs : List Int} {a n : Nat} (h : allGe m xs a n = true) (h1 : m ≤ xs.getD (a + n) 0) : allGe m xs a (n + 1) = true := by unfold allGe; rw [h, decide_eq_true h1]; rfl
theorem allGe_iff {m : Int} {xs : List Int} {a n : Nat} : allGe m xs a n = true ↔ ∀ k, k < n → m ≤ xs.getD (a + k) 0 := by
  induction n with
  | zero => simp [allGe]
  | succ n ih =>
    rw [allGe, Bool.and_eq_true, ih, decide_eq_true_iff]
    exact ⟨fun h k hk => by by_cases e : k = n; (subst e; exact h.2); exact h.1 k (by omega), fun h => ⟨fun k hk => h k (by omega), h n (by omega)⟩⟩

def showsS (p : Pol) (days kp : List Int) (day step lo hi : Int) : Bool :=
  if lo < 0 ∨ day < hi ∨ day < lo ∨ hi - lo + 1 ≠ p.hold then false
  else allGe (p.steps.getD step.toNat default).up days lo.toNat (hi + 1 - lo).toNat && allGe step kp (hi + 1).toNat (day - hi).toNat

set_option maxRecDepth 100000 in
set_option maxHeartbeats 2000000 in
theorem shows_any (pb : Nat) (p : Pol) (A : Option Addr) (c : Nat) (days : List Int) (Ak : Option Addr) (ck : Nat) (kp : List Int) (d j : Nat) (lo hi : Int) (w : World) (hp : PolAt w pb p) (hh : 1 ≤ p.hold ∧ p.hold ≤ 1000)
    (hr : Rd w 1 A days.length (ints days)) (hc : days.length ≤ c ∧ c ≤ 9223372036854775807) (hrk : Rd w 1 Ak days.length (ints kp)) (hck : days.length ≤ ck ∧ ck ≤ 9223372036854775807) (hl : days.length ≤ 100000) (hd : d < days.length) (hj : j < p.steps.length) (hhi : -4000000000000000000 ≤ hi) :
    Calls Tryd.prog 62 #[.agg #[.pointer (some ⟨pb, 0, none⟩)], .slice A days.length c, .slice Ak days.length ck, .int .i64 d, .int .i64 j, .agg #[.int .i64 lo, .int .i64 hi]] w
      fun e w' => e = .returned (.bool (showsS p days kp d j lo hi)) ∧ Below w.heap.size w w' := by
  obtain ⟨b, off, cc, hs0, hbb, hln, hc0, hc1, hc2, hc3⟩ := hp.step hj
  have b0 : ∀ o o', Below w.heap.size w ((w.alloc o).alloc o') := fun o o' => ((Below.refl _ _).alloc (Nat.le_refl _) _).alloc (by simp) _
  obtain ⟨h, hh1⟩ : ∃ h, h = p.hold := ⟨_, rfl⟩
  have hs1 : w.cell? ⟨pb, 1, none⟩ = some (.int .i64 h) := by obtain ⟨Ap, cp, hh, _⟩ := hp; rw [cell_of_heap hh, hh1]; rfl
  have hpb : pb < w.heap.size := by obtain ⟨Ap, cp, hh, _⟩ := hp; exact heap_lt hh
  rw [← hh1] at hh
  have hH := Lib.hid hh1
  clear hh1 hp hc0 hc1 hc3
  by_cases g1 : lo < 0
  · have d1 : decide (lo < 0) = true := by simp [g1]
    go_enter Tryd.func62, Tryd.ntmps62
    go_upto_region 1 with fail
    go_quiet (fail)
    go_wp2_with fail
    go_ret
    exact ⟨by rw [showsS, if_pos (.inl g1)]; rfl, below_drewN (b0 _ _) _⟩
  · have d1 : decide (lo < 0) = false := by simp [g1]
    by_cases g2 : (d : Int) < hi
    · have d2 : decide ((d : Int) < hi) = true := by simp [g2]
      go_enter Tryd.func62, Tryd.ntmps62
      go_upto_region 1 with fail
      go_quiet (fail)
      go_wp2_with fail
      go_ret
      exact ⟨by rw [showsS, if_pos (.inr (.inl g2))]; rfl, below_drewN (b0 _ _) _⟩
    · have d2 : decide ((d : Int) < hi) = false := by simp [g2]
      by_cases g3 : (d : Int) < lo
      · have d3 : decide ((d : Int) < lo) = true := by simp [g3]
        go_enter Tryd.func62, Tryd.ntmps62
        go_upto_region 1 with fail
        go_quiet (fail)
        go_wp2_with fail
        go_ret
        exact ⟨by rw [showsS, if_pos (.inr (.inr (.inl g3)))]; rfl, below_drewN (b0 _ _) _⟩
      · have d3 : decide ((d : Int) < lo) = false := by simp [g3]
        have q1 : (0 : Int) ≤ lo := by omega
        have q2 : lo ≤ (d : Int) := by omega
        have q3 : hi ≤ (d : Int) := by omega
        by_cases g4 : hi - lo + 1 = h
        · have d4 : (hi - lo + 1 != h) = false := by simp [g4]
          obtain ⟨a, rfl⟩ : ∃ a : Nat, lo = a := ⟨lo.toNat, by omega⟩
          obtain ⟨z, rfl⟩ : ∃ z : Nat, hi = z := ⟨hi.toNat, by omega⟩
          obtain ⟨b1, o1, rfl, hb1, hcd⟩ := hr.2 (by omega)
          obtain ⟨b2, o2, rfl, hb2, hck2⟩ := hrk.2 (by omega)
          go_enter Tryd.func62, Tryd.ntmps62
          go_upto_region 1 with fail
          go_quiet (fail)
          go_wp2_with fail
          obtain ⟨W, hW⟩ : ∃ W, W = (((w.alloc (Obj.cells #[Value.pointer (some { block := pb, off := 0 })] 101)).alloc (Obj.cells #[Value.int IntKind.i64 ↑a, Value.int IntKind.i64 ↑z] 28)).drewN nq) := ⟨_, rfl⟩
          rw [← hW]
          have bW : Below w.heap.size w W := by rw [hW]; exact below_drewN (b0 _ _) _
          have e0 : W.cell? ⟨w.heap.size, 0, none⟩ = some (.pointer (some ⟨pb, 0, none⟩)) := by
            rw [hW, World.cell?_drewN, World.cell?_alloc_lt _ _ _ (by simp)]; exact cell_new_one _ _ _
          have e1 : W.cell? ⟨w.heap.size + 1, 1, none⟩ = some (.int .i64 z) := by
            rw [hW, World.cell?_drewN]
            have := World.cell?_alloc_new (w.alloc (Obj.cells #[Value.pointer (some { block := pb, off := 0 })] 101)) #[Value.int IntKind.i64 ↑a, Value.int IntKind.i64 ↑z] 28 1
            rw [World.size_alloc] at this
            exact this
          have e2 := (bW.cell (p := ⟨pb, 0, none⟩) hpb).trans hs0
          have e3 := (bW.cell (p := ⟨b, off + j * 4 + 2, none⟩) hbb).trans hc2
          obtain ⟨u, hu⟩ : ∃ u, u = p.steps[j].up := ⟨_, rfl⟩
          rw [← hu] at e3
          have hu' : u = (p.steps.getD j default).up := by rw [hu]; simp [hj]
          have f1 : ∀ k, k < days.length → W.cell? ⟨b1, o1 + k, none⟩ = some (.int .i64 (days.getD k 0)) := fun k hk => (bW.cell (p := ⟨b1, o1 + k, none⟩) hb1).trans (hcd k _ (ints_get hk))
          have hkl : kp.length = days.length := by have := hrk.1; simpa [ints] using this
          have f2 : ∀ k, k < days.length → W.cell? ⟨b2, o2 + k, none⟩ = some (.int .i64 (kp.getD k 0)) := fun k hk => (bW.cell (p := ⟨b2, o2 + k, none⟩) hb2).trans (hck2 k _ (ints_get (by omega)))
          have hsh : showsS p days kp d j a z = (allGe u days a (z + 1 - a) && allGe j kp (z + 1) (d - z)) := by
            rw [showsS, if_neg (by rw [← hH.out]; omega), hu']
            have n1 : ((a : Int)).toNat = a := by omega
            have n2 : ((z : Int) + 1 - (a : Int)).toNat = z + 1 - a := by omega
            have n3 : ((z : Int) + 1).toNat = z + 1 := by omega
            have n4 : ((d : Int) - (z : Int)).toNat = d - z := by omega
            have n5 : ((j : Int)).toNat = j := by omega
            rw [n1, n2, n3, n4, n5]
          have HS := Lib.hid (And.intro hsh (And.intro bW (And.intro f1 f2)))
          have haz : a ≤ z + 1 := by omega
          have hzd : z ≤ d := by omega
          clear hW hu hu' hsh bW f1 f2 hcd hck2 hs0 hc2 b0 hkl hr hrk hb1 hb2 hbb hpb
          generalize hsw : w.heap.size = sw at e0 e1 ⊢
          go_loopg [54] (z + 1 - a) (fun g i wr => ∃ k : Nat, g + k = z + 1 - a ∧ i = .int .i64 k ∧ allGe u days a k = true ∧ W = wr)
          case atStart => exact ⟨0, by omega, rfl, rfl, rfl⟩
          case round =>
            obtain ⟨k, hk, rfl, hall, rfl⟩ := hrel
            have HA := Lib.hid hall
            clear hall
            by_cases hlt : k < z + 1 - a
            · have c1 : W.cell? ⟨b1, o1 + a + k, none⟩ = some (.int .i64 (days.getD (a + k) 0)) := by rw [Nat.add_assoc]; exact HS.out.2.2.1 (a + k) (by omega)
              obtain ⟨x, hx⟩ : ∃ x, x = days.getD (a + k) 0 := ⟨_, rfl⟩
              rw [← hx] at c1
              have HX := Lib.hid hx
              clear hx
              by_cases hxu : x < u
              · go_wp2_with fail
                go_ret
                refine ⟨?_, hsw ▸ HS.out.2.1⟩
                rw [HS.out.1, allGe_false (k := k) (by rw [← HX.out]; omega) hlt]; rfl
              · go_wp2_with fail
                go_roundg (gk - 1)
                case measure => omega
                case rel => exact ⟨k + 1, by omega, by go_num, allGe_succ HA.out (by rw [← HX.out]; omega), rfl⟩
            · obtain rfl : k = z + 1 - a := by omega
              by_cases hcz : ck = z + 1
              · go_wp2_with fail
                go_loopg [78] (d - z) (fun g i wr => ∃ k : Nat, g + k = d - z ∧ i = .int .i64 k ∧ allGe j kp (z + 1) k = true ∧ W = wr)
                case atStart => exact ⟨0, by omega, rfl, rfl, rfl⟩
                case round =>
                  obtain ⟨k, hk, rfl, hall, rfl⟩ := hrel
                  have HA2 := Lib.hid hall
                  clear hall
                  by_cases hlt2 : k < d - z
                  · exfalso; omega
                  · obtain rfl : k = d - z := by omega
                    go_wp2_with fail
                    go_ret
                    exact ⟨by rw [HS.out.1, HA.out, HA2.out]; rfl, hsw ▸ HS.out.2.1⟩
              · go_wp2_with fail
                go_loopg [78] (d - z) (fun g i wr => ∃ k : Nat, g + k = d - z ∧ i = .int .i64 k ∧ allGe j kp (z + 1) k = true ∧ W = wr)
                case atStart => exact ⟨0, by omega, rfl, rfl, rfl⟩
                case round =>
                  obtain ⟨k, hk, rfl, hall, rfl⟩ := hrel
                  have HA2 := Lib.hid hall
                  clear hall
                  by_cases hlt2 : k < d - z
                  · have c1 : W.cell? ⟨b2, o2 + (z + 1) + k, none⟩ = some (.int .i64 (kp.getD (z + 1 + k) 0)) := by rw [Nat.add_assoc]; exact HS.out.2.2.2 (z + 1 + k) (by omega)
                    obtain ⟨x, hx⟩ : ∃ x, x = kp.getD (z + 1 + k) 0 := ⟨_, rfl⟩
                    rw [← hx] at c1
                    have HX := Lib.hid hx
                    clear hx
                    by_cases hxu : x < (j : Int)
                    · go_wp2_with fail
                      go_ret
                      refine ⟨?_, hsw ▸ HS.out.2.1⟩
                      rw [HS.out.1, allGe_false (xs := kp) (a := z + 1) (k := k) (by rw [← HX.out]; omega) hlt2, Bool.and_false]; rfl
                    · go_wp2_with fail
                      go_roundg (gk - 1)
                      case measure => omega
                      case rel => exact ⟨k + 1, by omega, by go_num, allGe_succ HA2.out (by rw [← HX.out]; omega), rfl⟩
                  · obtain rfl : k = d - z := by omega
                    go_wp2_with fail
                    go_ret
                    exact ⟨by rw [HS.out.1, HA.out, HA2.out]; rfl, hsw ▸ HS.out.2.1⟩
        · have d4 : (hi - lo + 1 != h) = true := by simp [g4]
          go_enter Tryd.func62, Tryd.ntmps62
          go_upto_region 1 with fail
          go_quiet (fail)
          go_wp2_with fail
          go_ret
          exact ⟨by rw [showsS, if_pos (.inr (.inr (.inr (by rw [← hH.out]; exact g4))))]; rfl, below_drewN (b0 _ _) _⟩
end Go.Proofs.YtalcinepeofmcaaDoor
