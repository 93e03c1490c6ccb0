/- restrict.Sure -/
import Derived.Test.YtfmhlnfcbbpfeaaBounds
import Derived.Test.YtfmhlnfcbbpfeaaLeaf
import Derived.Deep.DeepCutAuto
import Derived.IntWalk
namespace Go.Proofs.Ytfmhlnfcbbpfeaa
open Go Go.RowKit Sp
set_option linter.unusedVariables false

/-- what Sure answers -/
def sureE (p : Pol) (l : List (Int × Int)) (v : Ves) (day : Int) : Int := if spnE p l ≠ 0 then spnE p l else if vright v = false then 1 else if within day 0 ((l.length : Int) - 1) then 0 else 6
def sureB (p : Pol) (l : List (Int × Int)) (v : Ves) (day : Int) : Bool := if sureE p l v day = 0 then (passesS p (l.map (·.2)) v).getD day.toNat false else false
def perhB (p : Pol) (l : List (Int × Int)) (v : Ves) (day : Int) : Bool := if sureE p l v day = 0 then (passesS p (l.map (·.1)) v).getD day.toNat false else false
theorem sure_not {p : Pol} {l : List (Int × Int)} {v : Ves} {day e : Int} (h : sureE p l v day = e) (he : e ≠ 0) : sureB p l v day = false ∧ perhB p l v day = false := by
  unfold sureB perhB
  rw [h, if_neg he, if_neg he]; exact ⟨rfl, rfl⟩
theorem sure_spn {p : Pol} {l : List (Int × Int)} {v : Ves} {day : Int} (h : spnE p l ≠ 0) : sureE p l v day = spnE p l := by unfold sureE; rw [if_pos h]
theorem sure_arg {p : Pol} {l : List (Int × Int)} {v : Ves} {day : Int} (h : spnE p l = 0) (hv : vright v = false) : sureE p l v day = 1 := by unfold sureE; rw [if_neg (fun f => f h), if_pos hv]
theorem sure_day {p : Pol} {l : List (Int × Int)} {v : Ves} {day : Int} (h : spnE p l = 0) (hv : vright v = true) : sureE p l v day = if within day 0 ((l.length : Int) - 1) then 0 else 6 := by unfold sureE; rw [if_neg (fun f => f h), if_neg (by rw [hv]; decide)]
def SurePost (w : World) (p : Pol) (l : List (Int × Int)) (v : Ves) (day : Int) (e : Ending) (w' : World) : Prop :=
  e = .returned (.tuple #[.bool (sureB p l v day), .bool (perhB p l v day), .int .i64 (sureE p l v day)]) ∧ Below w.heap.size w w'

structure SuS where
  g1 : Nat
  o1 : Nat
  c1 : Nat
  g2 : Nat
  o2 : Nat
  c2 : Nat
set_option linter.unusedVariables false
def SuV (W0 : World) (pb : Nat) (A1 A2 : Option Addr) (n c1 c2 d : Nat) (ve : Ves) (x y : Bool) (s : SuS) : Nat → Value → Prop
  | 0, v => v = .agg #[.pointer (some ⟨pb, 0, none⟩)]
  | 1, v => v = .slice A2 n c2
  | 2, v => v = .agg #[.int .i64 ve.cls, .int .i64 ve.ton, .bool ve.esc]
  | 3, v => v = .slice (some ⟨s.g1, s.o1, none⟩) n s.c1
  | 4, v => v = .int .i64 d
  | 5, v => v = .pointer (some ⟨s.g1, s.o1 + d, none⟩)
  | 6, v => v = .bool x
  | 7, v => v = .agg #[.pointer (some ⟨pb, 0, none⟩)]
  | 8, v => v = .slice A1 n c1
  | 9, v => v = .agg #[.int .i64 ve.cls, .int .i64 ve.ton, .bool ve.esc]
  | 10, v => v = .slice (some ⟨s.g2, s.o2, none⟩) n s.c2
  | 11, v => v = .int .i64 d
  | 12, v => v = .pointer (some ⟨s.g2, s.o2 + d, none⟩)
  | 13, v => v = .bool y
  | 14, v => v = .bool x
  | 15, v => v = .bool y
  | 16, v => v = .int .i64 0
  | _, _ => True
def SuW (W0 : World) (pb : Nat) (A1 A2 : Option Addr) (n c1 c2 d : Nat) (ve : Ves) (x y : Bool) (s : SuS) (l : Nat → Bool) (w : World) : Prop := Below W0.heap.size W0 w ∧ (l 3 = true → w.cell? ⟨s.g1, s.o1 + d, none⟩ = some (.bool x)) ∧ (l 10 = true → w.cell? ⟨s.g2, s.o2 + d, none⟩ = some (.bool y))

set_option maxRecDepth 100000 in
set_option maxHeartbeats 4000000 in
theorem Sure_any (As : Option Addr) (cs : Nat) (p : Pol) (A : Option Addr) (c : Nat) (l : List (Int × Int)) (v : Ves) (day : Int) (w : World) (hp : PolV w As cs p) (hr : Rd w 2 A l.length (spcs l)) (hm : l.length ≤ 9223372036854775807) :
    Calls Try.prog 56 #[.agg #[.slice As p.steps.length cs, .int .i64 p.hold, .int .i64 p.calm, .int .i64 p.notice, .int .i64 p.grace], .slice A l.length c, .agg #[.int .i64 v.cls, .int .i64 v.ton, .bool v.esc], .int .i64 day] w (SurePost w p l v day) := by
  obtain ⟨er, her⟩ : ∃ er, er = spnE p l := ⟨_, rfl⟩
  obtain ⟨W0, hW0⟩ : ∃ W0, W0 = (w.alloc (.cells #[.slice As p.steps.length cs, .int .i64 p.hold, .int .i64 p.calm, .int .i64 p.notice, .int .i64 p.grace] 25)).alloc (.cells #[.int .i64 v.cls, .int .i64 v.ton, .bool v.esc] 33) := ⟨_, rfl⟩
  obtain ⟨vb, hvb⟩ : ∃ vb, vb = w.heap.size + 1 := ⟨_, rfl⟩
  have b0 : Below w.heap.size w W0 := by rw [hW0]; exact ((Below.refl _ _).alloc (Nat.le_refl _) _).alloc (by simp) _
  have hv0 : W0.heap[vb]? = some (.cells #[.int .i64 v.cls, .int .i64 v.ton, .bool v.esc] 33 (0, 0)) := by
    rw [hW0, hvb]
    have := heap_alloc_new (w.alloc (.cells #[.slice As p.steps.length cs, .int .i64 p.hold, .int .i64 p.calm, .int .i64 p.notice, .int .i64 p.grace] 25)) (.cells #[.int .i64 v.cls, .int .i64 v.ton, .bool v.esc] 33)
    rwa [World.size_alloc] at this
  have hb0 : W0.heap[w.heap.size]? = some (.cells #[.slice As p.steps.length cs, .int .i64 p.hold, .int .i64 p.calm, .int .i64 p.notice, .int .i64 p.grace] 25 (0, 0)) := by rw [hW0]; exact heap_alloc' (heap_alloc_new _ _) _
  have t0 := (cell_of_heap hb0 0).trans rfl
  have t1 := (cell_of_heap hb0 1).trans rfl
  have t2 := (cell_of_heap hb0 2).trans rfl
  have t3 := (cell_of_heap hb0 3).trans rfl
  have t4 := (cell_of_heap hb0 4).trans rfl
  have hst : Calls Try.prog 101 #[.agg #[.slice As p.steps.length cs, .int .i64 p.hold, .int .i64 p.calm, .int .i64 p.notice, .int .i64 p.grace], .slice A l.length c] W0
      fun e w1 => ∃ pp A1 n1 c1 A2 n2 c2, e = .returned (.tuple #[.agg #[.pointer pp], .slice A1 n1 c1, .slice A2 n2 c2, .int .i64 er]) ∧ Below w.heap.size w w1 ∧ w1.heap[vb]? = some (.cells #[.int .i64 v.cls, .int .i64 v.ton, .bool v.esc] 33 (0, 0)) ∧
        (er = 0 → ∃ pb, pp = some ⟨pb, 0, none⟩ ∧ PolAt w1 pb p ∧ n1 = l.length ∧ n2 = l.length ∧ Rd w1 1 A1 l.length (ints (l.map (·.1))) ∧ Rd w1 1 A2 l.length (ints (l.map (·.2))) ∧ l.length ≤ 400) := by
    refine (bounds_any As cs p A c l W0 ⟨hp.1, hp.2.1, hp.2.2.below b0⟩ (hr.below b0) hm).mono ?_
    rintro e w1 ⟨pp, A1, n1, c1, A2, n2, c2, rfl, hB, h0⟩
    exact ⟨pp, A1, n1, c1, A2, n2, c2, by rw [her], b0.trans (hB.mono b0.size), (hB.block _ (heap_lt hv0)).trans hv0, fun h => h0 (her.symm.trans h)⟩
  have HP := Lib.hid (And.intro her (And.intro hst (And.intro hW0 hvb)))
  clear her hst b0 hr hv0 hb0
  go_enter Try.func56, Try.ntmps56
  go_upto_region 1 with fail
  rw [← hW0, ← hvb]
  clear hW0 hvb
  go_wp2_with fail
  refine HP.out.2.1.mono ?_
  rintro e w1 ⟨pp, A1, n1, c1, A2, n2, c2, rfl, hB, hv1, hpol⟩
  clear t0 t1 t2 t3 t4
  by_cases h0 : er = 0
  · subst h0
    obtain ⟨pb, rfl, hpa, rfl, rfl, r1, r2, hl4⟩ := hpol rfl
    have hck : checkS p = 0 := by
      have := HP.out.1.symm
      unfold spnE at this
      split at this
      · rename_i h; exact absurd this h
      · rename_i h; rw [start_nil] at h; simpa using h
    have HC := Lib.hid (check_ok hck)
    obtain ⟨W, hW⟩ : ∃ W, W = w1.alloc (.cells #[.pointer (some ⟨pb, 0, none⟩)] 143) := ⟨_, rfl⟩
    obtain ⟨rb, hrb⟩ : ∃ rb, rb = w1.heap.size := ⟨_, rfl⟩
    have bw : Below w1.heap.size w1 W := by rw [hW]; exact (Below.refl _ _).alloc (Nat.le_refl _) _
    have bW : Below w.heap.size w W := hB.trans (bw.mono hB.size)
    have fr : W.cell? ⟨rb, 0, none⟩ = some (.pointer (some ⟨pb, 0, none⟩)) := by rw [hW, hrb]; exact cell_new_one _ _ _
    have hv2 : W.heap[vb]? = some (.cells #[.int .i64 v.cls, .int .i64 v.ton, .bool v.esc] 33 (0, 0)) := (bw.block _ (heap_lt hv1)).trans hv1
    have HB := Lib.hid (And.intro bW (And.intro (hpa.below bw) (And.intro (r1.below bw) (And.intro (r2.below bw) hv2))))
    have zr := World.block_lt_of_cell? W _ fr
    have zv := heap_lt hv2
    have v0 := (cell_of_heap hv2 0).trans rfl
    have v1 := (cell_of_heap hv2 1).trans rfl
    have v2 := (cell_of_heap hv2 2).trans rfl
    clear hpol hpa r1 r2 bw bW hck hB hv1 hv2
    go_upto_region 2 with fail
    rw [← hW, ← hrb]
    clear hW hrb
    obtain ⟨vr, hvr⟩ : ∃ vr, vr = vright v := ⟨_, rfl⟩
    have hrt : ∀ wx, Calls Try.prog 75 #[.agg #[.int .i64 v.cls, .int .i64 v.ton, .bool v.esc]] wx fun e w' => e = .returned (.bool vr) ∧ Below wx.heap.size wx w' := fun wx => by rw [hvr]; exact right_any v wx
    have HV := Lib.hid (And.intro hvr hrt)
    clear hvr hrt
    cases vr
    · go_wp2_with (go_at_call 75; refine (HV.out.2 _).mono ?_; rintro e w2 ⟨rfl, b2⟩)
      go_ret3
      have he : sureE p l v day = 1 := sure_arg HP.out.1.symm HV.out.1.symm
      have hn := sure_not he (by decide)
      exact ⟨by rw [he, hn.1, hn.2]; rfl, HB.out.1.trans (b2.mono HB.out.1.size)⟩
    · obtain ⟨dr, hdr⟩ : ∃ dr, dr = within day 0 ((l.length : Int) - 1) := ⟨_, rfl⟩
      have hin : ∀ wx, Calls Try.prog 76 #[.int .i64 day, .int .i64 0, .int .i64 ((l.length : Int) - 1)] wx fun e w' => e = .returned (.bool dr) ∧ wx = w' := fun wx => by rw [hdr]; exact within_any day 0 _ wx
      have HD := Lib.hid (And.intro hdr hin)
      clear hdr hin
      cases dr
      · go_wp2_with (first | (go_at_call 75; refine (HV.out.2 _).mono ?_; rintro e w2 ⟨rfl, b2⟩) | (go_at_call 76; refine (HD.out.2 _).mono ?_; rintro e w3 ⟨rfl, rfl⟩))
        go_ret3
        have he : sureE p l v day = 6 := by rw [sure_day HP.out.1.symm HV.out.1.symm, ← HD.out.1]; rfl
        have hn := sure_not he (by decide)
        exact ⟨by rw [he, hn.1, hn.2]; rfl, HB.out.1.trans (b2.mono HB.out.1.size)⟩
      · have hlt : 0 ≤ day ∧ day < l.length := by have := HD.out.1; simp [within] at this; omega
        obtain ⟨d, rfl⟩ : ∃ d : Nat, day = d := ⟨day.toNat, by omega⟩
        have hdl : d < l.length := by omega
        have he : sureE p l v (d : Int) = 0 := by rw [sure_day HP.out.1.symm HV.out.1.symm, ← HD.out.1]; rfl
        obtain ⟨x, hx⟩ : ∃ x, x = (passesS p (l.map (·.2)) v).getD d false := ⟨_, rfl⟩
        obtain ⟨y, hy⟩ : ∃ y, y = (passesS p (l.map (·.1)) v).getD d false := ⟨_, rfl⟩
        have HX := Lib.hid (And.intro he (And.intro hx hy))
        have HPA : ∀ (xs : List Int) (Ax : Option Addr) (cx : Nat) (W' : World), Below W.heap.size W W' → xs.length = l.length → Rd W 1 Ax l.length (ints xs) → Calls Try.prog 77 #[.agg #[.pointer (some ⟨pb, 0, none⟩)], .slice Ax l.length cx, .agg #[.int .i64 v.cls, .int .i64 v.ton, .bool v.esc]] W'
            fun e w' => ∃ g o c, e = .returned (.slice (some ⟨g, o, none⟩) l.length c) ∧ w'.cell? ⟨g, o + d, none⟩ = some (.bool ((passesS p xs v).getD d false)) ∧ Below W'.heap.size W' w' := by
          intro xs Ax cx W' hW' hxl hx
          have hx2 : Rd W' 1 Ax xs.length (ints xs) := by rw [hxl]; exact hx.below hW'
          have := passes_any pb p Ax cx xs v W' (HB.out.2.1.below hW') ⟨HC.out.2.2.1, by have := HC.out.2.2.2.1; omega⟩ ⟨HC.out.2.2.2.2.1, by have := HC.out.2.2.2.2.2.1; omega⟩ ⟨HC.out.2.2.2.2.2.2.1, by have := HC.out.2.2.2.2.2.2.2.1; omega⟩ HC.out.1 (vright_cls HV.out.1.symm) hx2 (by omega)
          rw [hxl] at this
          refine this.mono ?_
          rintro e w' ⟨A3, c3, q3, rfl, o3, _, b3⟩
          have hxd : d < (passesS p xs v).length := by rw [passesS_length, hxl]; exact hdl
          rw [hxl] at o3
          obtain ⟨g, o, rfl, _, _, hc, _⟩ := o3.some_ (by omega)
          exact ⟨g, o, c3, by rw [hxl], hc d _ (bools_get hxd), b3⟩
        have HPAS := Lib.hid HPA
        have n1 : (0 : Int) ≤ (d : Int) := by omega
        have n2 : (d : Int) < (l.length : Int) := by omega
        clear he hx hy HPA hlt
        go_upto_region 8 with (first | (go_at_call 75; refine (HV.out.2 _).mono ?_; rintro e w2 ⟨rfl, b2⟩; have HB2 := Lib.hid b2; have v0 := (b2.cell (p := ⟨vb, 0, none⟩) zv).trans v0; have v1 := (b2.cell (p := ⟨vb, 1, none⟩) zv).trans v1; have v2 := (b2.cell (p := ⟨vb, 2, none⟩) zv).trans v2; have fr := (b2.cell (p := ⟨rb, 0, none⟩) zr).trans fr; have zs := b2.size; clear b2) | (go_at_call 76; refine (HD.out.2 _).mono ?_; rintro e w3 ⟨rfl, rfl⟩))
        have zv2 : vb < w2.heap.size := by omega
        have zr2 : rb < w2.heap.size := by omega
        refine wp_region_steps (σ := SuS) (by kernel_rfl) (by kernel_rfl) (fun sg jx vx _ => SuV w2 pb A1 A2 l.length c1 c2 d v x y sg jx vx) (fun sg ly wx => SuW w2 pb A1 A2 l.length c1 c2 d v x y sg ly wx) ⟨0, 0, 0, 0, 0, 0⟩ ?_ ?_ ?_
        · exact ⟨(Below.refl _ _).drew, fun h => by simp at h, fun h => by simp at h⟩
        · simp only [AllFrom, Nat.zero_add, Nat.reduceAdd]
          refine ⟨?_, ?_, ?_, ?_, ?_, ?_, ?_, ?_, ?_, ?_, ?_, ?_, ?_, ?_, ?_, ?_, ?_, trivial⟩
          · refine step_pure fun sg ly a wr hl hd hW hF => ?_
            have et11 := hF.old 11 (by kernel_rfl)
            simp [Act.eval] at et11
            have c8 := (hW.1.cell (p := ⟨rb, 0, none⟩) zr2).trans fr
            exact ⟨by simpa [SuW, upd] using hW, .agg #[.pointer (some ⟨pb, 0, none⟩)], by go_simp, rfl⟩
          · refine step_pure fun sg ly a wr hl hd hW hF => ?_
            have et13 := hF.old 13 (by kernel_rfl)
            simp [Act.eval] at et13
            exact ⟨by simpa [SuW, upd] using hW, .slice A2 l.length c2, by go_simp, rfl⟩
          · refine step_pure fun sg ly a wr hl hd hW hF => ?_
            have et6 := hF.old 6 (by kernel_rfl)
            simp [Act.eval] at et6
            have k0 := (hW.1.cell (p := ⟨vb, 0, none⟩) zv2).trans v0
            have k1 := (hW.1.cell (p := ⟨vb, 1, none⟩) zv2).trans v1
            have k2 := (hW.1.cell (p := ⟨vb, 2, none⟩) zv2).trans v2
            exact ⟨by simpa [SuW, upd] using hW, .agg #[.int .i64 v.cls, .int .i64 v.ton, .bool v.esc], by go_simp, rfl⟩
          · refine step_call fun sg ly a wr hl hd hW hF => ?_
            simp [Region.binds] at hd
            have et38 := hF.new 0 38 (by simp [hd]) rfl
            simp [SuV, Act.eval] at et38
            have et39 := hF.new 1 39 (by simp [hd]) rfl
            simp [SuV, Act.eval] at et39
            have et40 := hF.new 2 40 (by simp [hd]) rfl
            simp [SuV, Act.eval] at et40
            have nz := hF.notYet 3 5 hl (by kernel_rfl)
            refine ⟨77, #[.agg #[.pointer (some ⟨pb, 0, none⟩)], .slice A2 l.length c2, .agg #[.int .i64 v.cls, .int .i64 v.ton, .bool v.esc]], by go_simp, ?_⟩
            refine (HPAS.out (l.map (·.2)) A2 c2 wr (HB2.out.trans (hW.1.mono zs)) (by simp) HB.out.2.2.2.1).mono ?_
            rintro e w4 ⟨g, o, cx, rfl, cd, b1⟩
            refine ⟨_, { sg with g1 := g, o1 := o, c1 := cx }, rfl, ⟨hW.1.trans (b1.mono hW.1.size), fun _ => by rw [HX.out.2.1]; exact cd, fun h8 => (b1.cell (World.block_lt_of_cell? _ _ (hW.2.2 (by simpa [upd] using h8)))).trans (hW.2.2 (by simpa [upd] using h8))⟩, rfl, ?_⟩
            intro i u hi h
            have i3 : i ≠ 3 := by rintro rfl; rw [hl] at hi; cases hi
            have i5 : i ≠ 5 := by rintro rfl; rw [nz] at hi; cases hi
            unfold SuV at h ⊢
            split at h <;> first | exact h | exact absurd rfl i3 | exact absurd rfl i5
          · refine step_pure fun sg ly a wr hl hd hW hF => ?_
            have et3 := hF.old 3 (by kernel_rfl)
            simp [Act.eval] at et3
            exact ⟨by simpa [SuW, upd] using hW, .int .i64 d, by go_simp, rfl⟩
          · refine step_pure fun sg ly a wr hl hd hW hF => ?_
            simp [Region.binds] at hd
            have et41 := hF.new 3 41 (by simp [hd]) rfl
            simp [SuV, Act.eval] at et41
            have et42 := hF.new 4 42 (by simp [hd]) rfl
            simp [SuV, Act.eval] at et42
            exact ⟨by simpa [SuW, upd] using hW, .pointer (some ⟨sg.g1, sg.o1 + d, none⟩), by go_simp, rfl⟩
          · refine step_pure fun sg ly a wr hl hd hW hF => ?_
            simp [Region.binds] at hd
            have et43 := hF.new 5 43 (by simp [hd]) rfl
            simp [SuV, Act.eval] at et43
            have y3 := hF.before 3 5 (by simp [hd]) (by kernel_rfl)
            have cd := hW.2.1 y3
            exact ⟨by simpa [SuW, upd] using hW, .bool x, by go_simp, rfl⟩
          · refine step_pure fun sg ly a wr hl hd hW hF => ?_
            have et11 := hF.old 11 (by kernel_rfl)
            simp [Act.eval] at et11
            have c8 := (hW.1.cell (p := ⟨rb, 0, none⟩) zr2).trans fr
            exact ⟨by simpa [SuW, upd] using hW, .agg #[.pointer (some ⟨pb, 0, none⟩)], by go_simp, rfl⟩
          · refine step_pure fun sg ly a wr hl hd hW hF => ?_
            have et12 := hF.old 12 (by kernel_rfl)
            simp [Act.eval] at et12
            exact ⟨by simpa [SuW, upd] using hW, .slice A1 l.length c1, by go_simp, rfl⟩
          · refine step_pure fun sg ly a wr hl hd hW hF => ?_
            have et6 := hF.old 6 (by kernel_rfl)
            simp [Act.eval] at et6
            have k0 := (hW.1.cell (p := ⟨vb, 0, none⟩) zv2).trans v0
            have k1 := (hW.1.cell (p := ⟨vb, 1, none⟩) zv2).trans v1
            have k2 := (hW.1.cell (p := ⟨vb, 2, none⟩) zv2).trans v2
            exact ⟨by simpa [SuW, upd] using hW, .agg #[.int .i64 v.cls, .int .i64 v.ton, .bool v.esc], by go_simp, rfl⟩
          · refine step_call fun sg ly a wr hl hd hW hF => ?_
            simp [Region.binds] at hd
            have et45 := hF.new 7 45 (by simp [hd]) rfl
            simp [SuV, Act.eval] at et45
            have et46 := hF.new 8 46 (by simp [hd]) rfl
            simp [SuV, Act.eval] at et46
            have et47 := hF.new 9 47 (by simp [hd]) rfl
            simp [SuV, Act.eval] at et47
            have nz := hF.notYet 10 12 hl (by kernel_rfl)
            refine ⟨77, #[.agg #[.pointer (some ⟨pb, 0, none⟩)], .slice A1 l.length c1, .agg #[.int .i64 v.cls, .int .i64 v.ton, .bool v.esc]], by go_simp, ?_⟩
            refine (HPAS.out (l.map (·.1)) A1 c1 wr (HB2.out.trans (hW.1.mono zs)) (by simp) HB.out.2.2.1).mono ?_
            rintro e w4 ⟨g, o, cx, rfl, cd, b1⟩
            refine ⟨_, { sg with g2 := g, o2 := o, c2 := cx }, rfl, ⟨hW.1.trans (b1.mono hW.1.size), fun h8 => (b1.cell (World.block_lt_of_cell? _ _ (hW.2.1 (by simpa [upd] using h8)))).trans (hW.2.1 (by simpa [upd] using h8)), fun _ => by rw [HX.out.2.2]; exact cd⟩, rfl, ?_⟩
            intro i u hi h
            have i10 : i ≠ 10 := by rintro rfl; rw [hl] at hi; cases hi
            have i12 : i ≠ 12 := by rintro rfl; rw [nz] at hi; cases hi
            unfold SuV at h ⊢
            split at h <;> first | exact h | exact absurd rfl i10 | exact absurd rfl i12
          · refine step_pure fun sg ly a wr hl hd hW hF => ?_
            have et3 := hF.old 3 (by kernel_rfl)
            simp [Act.eval] at et3
            exact ⟨by simpa [SuW, upd] using hW, .int .i64 d, by go_simp, rfl⟩
          · refine step_pure fun sg ly a wr hl hd hW hF => ?_
            simp [Region.binds] at hd
            have et48 := hF.new 10 48 (by simp [hd]) rfl
            simp [SuV, Act.eval] at et48
            have et49 := hF.new 11 49 (by simp [hd]) rfl
            simp [SuV, Act.eval] at et49
            exact ⟨by simpa [SuW, upd] using hW, .pointer (some ⟨sg.g2, sg.o2 + d, none⟩), by go_simp, rfl⟩
          · refine step_pure fun sg ly a wr hl hd hW hF => ?_
            simp [Region.binds] at hd
            have et50 := hF.new 12 50 (by simp [hd]) rfl
            simp [SuV, Act.eval] at et50
            have y10 := hF.before 10 12 (by simp [hd]) (by kernel_rfl)
            have cd := hW.2.2 y10
            exact ⟨by simpa [SuW, upd] using hW, .bool y, by go_simp, rfl⟩
          · refine step_pure fun sg ly a wr hl hd hW hF => ?_
            simp [Region.binds] at hd
            have et44 := hF.new 6 44 (by simp [hd]) rfl
            simp [SuV, Act.eval] at et44
            exact ⟨by simpa [SuW, upd] using hW, .bool x, by go_simp, rfl⟩
          · refine step_pure fun sg ly a wr hl hd hW hF => ?_
            simp [Region.binds] at hd
            have et51 := hF.new 13 51 (by simp [hd]) rfl
            simp [SuV, Act.eval] at et51
            exact ⟨by simpa [SuW, upd] using hW, .bool y, by go_simp, rfl⟩
          · refine step_pure fun sg ly a wr hl hd hW hF => ?_
            exact ⟨by simpa [SuW, upd] using hW, .int .i64 0, by go_simp, rfl⟩
        intro sg a w3 hW hF
        have v8 := hF.new 14 8 rfl rfl
        have v9 := hF.new 15 9 rfl rfl
        have v10 := hF.new 16 10 rfl rfl
        simp only [SuV] at v8 v9 v10
        obtain ⟨f, hf, rfl⟩ := hF.lit
        have f8 := (hf 8).trans v8
        have f9 := (hf 9).trans v9
        have f10 := (hf 10).trans v10
        have b3 := Lib.hid hW.1
        simp only [List.filterMap, List.foldl, List.setIfInBounds_toArray, List.set_cons_succ, List.set_cons_zero]
        rw [f8, f9, f10]
        clear hf hF v10 v8 v9 f8 f9 f10 hW
        go_wp2_with fail
        go_ret3
        refine ⟨?_, HB.out.1.trans ((HB2.out.trans (b3.out.mono zs)).mono HB.out.1.size)⟩
        rw [sureB, perhB, HX.out.1, if_pos rfl, if_pos rfl, Int.toNat_natCast, ← HX.out.2.1, ← HX.out.2.2]; rfl
  · have hne : (er != 0) = true := by simp [h0]
    have HK := Lib.hid h0
    have HB := Lib.hid hB
    clear h0 hpol hB
    go_wp2_with fail
    go_ret3
    have he : sureE p l v day = er := by rw [sure_spn (by rw [← HP.out.1]; exact HK.out), HP.out.1]
    have hn := sure_not he HK.out
    exact ⟨by rw [he, hn.1, hn.2]; rfl, HB.out.alloc HB.out.size _⟩
end Go.Proofs.Ytfmhlnfcbbpfeaa
